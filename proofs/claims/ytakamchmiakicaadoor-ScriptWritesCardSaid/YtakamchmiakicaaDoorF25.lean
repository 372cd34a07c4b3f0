/- What the functions compute, and that they do: printed by a program of this session (zgen.py), proved by Zed. -/
import Derived.Test.YtakamchmiakicaaDoorF25x0
namespace Go.Proofs.YtakamchmiakicaaDoorF25
open Go Zed Go.Proofs.YtakamchmiakicaaDoorLeaf Go.Proofs.YtakamchmiakicaaDoorSText
set_option maxRecDepth 100000
set_option linter.unusedVariables false
/-! brougham/broughamref25.Same -/
def f13_broughamref25_Same_in (a : List (Int × Int × Int × Int × Int × Int × List Int)) (b : List (Int × Int × Int × Int × Int × Int × List Int)) : Inn := ⟨[.c (.d (.sl (.pair (.int .i64) (.pair (.int .i64) (.pair (.int .i64) (.pair (.int .i64) (.pair (.int .i64) (.pair (.int .i64) (.slice (.int .u8)))))))) a)), .c (.d (.sl (.pair (.int .i64) (.pair (.int .i64) (.pair (.int .i64) (.pair (.int .i64) (.pair (.int .i64) (.pair (.int .i64) (.slice (.int .u8)))))))) b))], [], [], 0⟩
def f13_broughamref25_Same_out (r : Bool) : Out := ⟨oc (.d (.bool r)), [], [], 0⟩
def f13_broughamref25_Same_L4 : Nat → (List (Int × Int × Int × Int × Int × Int × List Int)) → (List (Int × Int × Int × Int × Int × Int × List Int)) → Int → Option ((Bool) ⊕ (Unit))
  | 0, _, _, _ => none
  | n + 1, a, b, i =>
    if (decide ((i : Int) < ((a.length : Nat) : Int))) = true then
      if (0 : Int) ≤ i ∧ i < (((a).length : Nat) : Int) then
      if (0 : Int) ≤ i ∧ i < (((b).length : Nat) : Int) then
      if ((((a.getD i.toNat (0, (0, (0, (0, (0, (0, []))))))).1) : Int) != ((b.getD i.toNat (0, (0, (0, (0, (0, (0, []))))))).1)) = true then
        some (.inl false)
      else
        if (((((a.getD i.toNat (0, (0, (0, (0, (0, (0, []))))))).2).1) : Int) != (((b.getD i.toNat (0, (0, (0, (0, (0, (0, []))))))).2).1)) = true then
          some (.inl false)
        else
          if ((((((a.getD i.toNat (0, (0, (0, (0, (0, (0, []))))))).2).2).1) : Int) != ((((b.getD i.toNat (0, (0, (0, (0, (0, (0, []))))))).2).2).1)) = true then
            some (.inl false)
          else
            if (((((((a.getD i.toNat (0, (0, (0, (0, (0, (0, []))))))).2).2).2).1) : Int) != (((((b.getD i.toNat (0, (0, (0, (0, (0, (0, []))))))).2).2).2).1)) = true then
              some (.inl false)
            else
              if ((((((((a.getD i.toNat (0, (0, (0, (0, (0, (0, []))))))).2).2).2).2).1) : Int) != ((((((b.getD i.toNat (0, (0, (0, (0, (0, (0, []))))))).2).2).2).2).1)) = true then
                some (.inl false)
              else
                if (((((((((a.getD i.toNat (0, (0, (0, (0, (0, (0, []))))))).2).2).2).2).2).1) : Int) != (((((((b.getD i.toNat (0, (0, (0, (0, (0, (0, []))))))).2).2).2).2).2).1)) = true then
                  some (.inl false)
                else
                  if (!((strOfNums (((((((a.getD i.toNat (0, (0, (0, (0, (0, (0, []))))))).2).2).2).2).2).2)).toList == (strOfNums (((((((b.getD i.toNat (0, (0, (0, (0, (0, (0, []))))))).2).2).2).2).2).2)).toList)) = true then
                    some (.inl false)
                  else
                    f13_broughamref25_Same_L4 n a b (IntKind.wrap .i64 (i + 1))
      else none
      else none
    else
      some (.inr ())
def f13_broughamref25_Same_L4_k (w : (Bool) ⊕ (Unit)) (o : Out) : Prop := match w with
  | .inl e => o = f13_broughamref25_Same_out e
  | .inr e => At Tryd.prog Tryd.f13 0 9 ⟨[], [], [], 0⟩ o
theorem f13_broughamref25_Same_L4_ok (n : Nat) : ∀ (a : List (Int × Int × Int × Int × Int × Int × List Int)) (b : List (Int × Int × Int × Int × Int × Int × List Int)) (i : Int) (w : (Bool) ⊕ (Unit)) (h : f13_broughamref25_Same_L4 n a b i = some w) (o : Out) (hk : f13_broughamref25_Same_L4_k w o), At Tryd.prog Tryd.f13 0 4 ⟨[(0, oc (.d (.sl (.pair (.int .i64) (.pair (.int .i64) (.pair (.int .i64) (.pair (.int .i64) (.pair (.int .i64) (.pair (.int .i64) (.slice (.int .u8)))))))) a))), (1, oc (.d (.sl (.pair (.int .i64) (.pair (.int .i64) (.pair (.int .i64) (.pair (.int .i64) (.pair (.int .i64) (.pair (.int .i64) (.slice (.int .u8)))))))) b))), (5, oc (zi i))], [], [], 0⟩ o := by
  induction n with
  | zero => intro a b i w h; rw [f13_broughamref25_Same_L4] at h; cases h
  | succ n ih =>
    intro a b i w h o hk
    rw [f13_broughamref25_Same_L4] at h
    rcases iteS h with ⟨b620_e0, h⟩ | ⟨b620_e0, h⟩
    · refine At.step hm ht ⟨[], [true], [], [0, 1, 5], []⟩ 6 ⟨[(0, oc (.d (.sl (.pair (.int .i64) (.pair (.int .i64) (.pair (.int .i64) (.pair (.int .i64) (.pair (.int .i64) (.pair (.int .i64) (.slice (.int .u8)))))))) a))), (1, oc (.d (.sl (.pair (.int .i64) (.pair (.int .i64) (.pair (.int .i64) (.pair (.int .i64) (.pair (.int .i64) (.pair (.int .i64) (.slice (.int .u8)))))))) b))), (5, oc (zi i))], [], [], 0⟩ [(decide ((i : Int) < ((a.length : Nat) : Int))) = true] (by kernel_rfl) ⟨b620_e0, trivial⟩ ?_
      obtain ⟨g621_0, h⟩ := ifS h
      obtain ⟨g621_1, h⟩ := ifS h
      refine At.step hm ht ⟨[], [], [], [0, 1, 5, 6, 7], [8, 9]⟩ 7 ⟨[(0, oc (.d (.sl (.pair (.int .i64) (.pair (.int .i64) (.pair (.int .i64) (.pair (.int .i64) (.pair (.int .i64) (.pair (.int .i64) (.slice (.int .u8)))))))) a))), (1, oc (.d (.sl (.pair (.int .i64) (.pair (.int .i64) (.pair (.int .i64) (.pair (.int .i64) (.pair (.int .i64) (.pair (.int .i64) (.slice (.int .u8)))))))) b))), (5, oc (zi i)), (6, oc (.ptr 0 0)), (7, oc (.ptr 1 0))], [], [(0, [zi ((a.getD i.toNat (0, (0, (0, (0, (0, (0, []))))))).1), zi (((a.getD i.toNat (0, (0, (0, (0, (0, (0, []))))))).2).1), zi ((((a.getD i.toNat (0, (0, (0, (0, (0, (0, []))))))).2).2).1), zi (((((a.getD i.toNat (0, (0, (0, (0, (0, (0, []))))))).2).2).2).1), zi ((((((a.getD i.toNat (0, (0, (0, (0, (0, (0, []))))))).2).2).2).2).1), zi (((((((a.getD i.toNat (0, (0, (0, (0, (0, (0, []))))))).2).2).2).2).2).1), .d (.sl (.int .u8) (((((((a.getD i.toNat (0, (0, (0, (0, (0, (0, []))))))).2).2).2).2).2).2))]), (1, [zi ((b.getD i.toNat (0, (0, (0, (0, (0, (0, []))))))).1), zi (((b.getD i.toNat (0, (0, (0, (0, (0, (0, []))))))).2).1), zi ((((b.getD i.toNat (0, (0, (0, (0, (0, (0, []))))))).2).2).1), zi (((((b.getD i.toNat (0, (0, (0, (0, (0, (0, []))))))).2).2).2).1), zi ((((((b.getD i.toNat (0, (0, (0, (0, (0, (0, []))))))).2).2).2).2).1), zi (((((((b.getD i.toNat (0, (0, (0, (0, (0, (0, []))))))).2).2).2).2).2).1), .d (.sl (.int .u8) (((((((b.getD i.toNat (0, (0, (0, (0, (0, (0, []))))))).2).2).2).2).2).2))])], 2⟩ [(0 : Int) ≤ i ∧ i < (((a).length : Nat) : Int), (0 : Int) ≤ i ∧ i < (((b).length : Nat) : Int), 0 + 7 ≤ 7, 0 + 7 ≤ 7] (by kernel_rfl) ⟨g621_0, g621_1, (by decide), (by decide), trivial⟩ ?_
      rcases iteS h with ⟨b622_5, h⟩ | ⟨b622_5, h⟩
      · refine At.step hm ht ⟨[(5, .b true)], [true], [], [], []⟩ 8 ⟨[], [], [], 0⟩ [((((a.getD i.toNat (0, (0, (0, (0, (0, (0, []))))))).1) : Int) != ((b.getD i.toNat (0, (0, (0, (0, (0, (0, []))))))).1)) = true, true = true] (by kernel_rfl) ⟨b622_5, rfl, trivial⟩ ?_
        have h := Option.some.inj h
        subst h
        have hk : o = f13_broughamref25_Same_out false := hk
        subst hk
        exact At.fin hm ht ⟨[], [], [], [4], []⟩ [] (by kernel_rfl) trivial
      · rcases iteS h with ⟨b622_12, h⟩ | ⟨b622_12, h⟩
        · refine At.step hm ht ⟨[(5, .b false), (12, .b true)], [true], [], [], []⟩ 8 ⟨[], [], [], 0⟩ [((((a.getD i.toNat (0, (0, (0, (0, (0, (0, []))))))).1) : Int) != ((b.getD i.toNat (0, (0, (0, (0, (0, (0, []))))))).1)) = false, (((((a.getD i.toNat (0, (0, (0, (0, (0, (0, []))))))).2).1) : Int) != (((b.getD i.toNat (0, (0, (0, (0, (0, (0, []))))))).2).1)) = true, true = true] (by kernel_rfl) ⟨b622_5, b622_12, rfl, trivial⟩ ?_
          have h := Option.some.inj h
          subst h
          have hk : o = f13_broughamref25_Same_out false := hk
          subst hk
          exact At.fin hm ht ⟨[], [], [], [4], []⟩ [] (by kernel_rfl) trivial
        · rcases iteS h with ⟨b622_19, h⟩ | ⟨b622_19, h⟩
          · refine At.step hm ht ⟨[(5, .b false), (12, .b false), (19, .b true)], [true], [], [], []⟩ 8 ⟨[], [], [], 0⟩ [((((a.getD i.toNat (0, (0, (0, (0, (0, (0, []))))))).1) : Int) != ((b.getD i.toNat (0, (0, (0, (0, (0, (0, []))))))).1)) = false, (((((a.getD i.toNat (0, (0, (0, (0, (0, (0, []))))))).2).1) : Int) != (((b.getD i.toNat (0, (0, (0, (0, (0, (0, []))))))).2).1)) = false, ((((((a.getD i.toNat (0, (0, (0, (0, (0, (0, []))))))).2).2).1) : Int) != ((((b.getD i.toNat (0, (0, (0, (0, (0, (0, []))))))).2).2).1)) = true, true = true] (by kernel_rfl) ⟨b622_5, b622_12, b622_19, rfl, trivial⟩ ?_
            have h := Option.some.inj h
            subst h
            have hk : o = f13_broughamref25_Same_out false := hk
            subst hk
            exact At.fin hm ht ⟨[], [], [], [4], []⟩ [] (by kernel_rfl) trivial
          · rcases iteS h with ⟨b622_26, h⟩ | ⟨b622_26, h⟩
            · refine At.step hm ht ⟨[(5, .b false), (12, .b false), (19, .b false), (26, .b true)], [true], [], [], []⟩ 8 ⟨[], [], [], 0⟩ [((((a.getD i.toNat (0, (0, (0, (0, (0, (0, []))))))).1) : Int) != ((b.getD i.toNat (0, (0, (0, (0, (0, (0, []))))))).1)) = false, (((((a.getD i.toNat (0, (0, (0, (0, (0, (0, []))))))).2).1) : Int) != (((b.getD i.toNat (0, (0, (0, (0, (0, (0, []))))))).2).1)) = false, ((((((a.getD i.toNat (0, (0, (0, (0, (0, (0, []))))))).2).2).1) : Int) != ((((b.getD i.toNat (0, (0, (0, (0, (0, (0, []))))))).2).2).1)) = false, (((((((a.getD i.toNat (0, (0, (0, (0, (0, (0, []))))))).2).2).2).1) : Int) != (((((b.getD i.toNat (0, (0, (0, (0, (0, (0, []))))))).2).2).2).1)) = true, true = true] (by kernel_rfl) ⟨b622_5, b622_12, b622_19, b622_26, rfl, trivial⟩ ?_
              have h := Option.some.inj h
              subst h
              have hk : o = f13_broughamref25_Same_out false := hk
              subst hk
              exact At.fin hm ht ⟨[], [], [], [4], []⟩ [] (by kernel_rfl) trivial
            · rcases iteS h with ⟨b622_33, h⟩ | ⟨b622_33, h⟩
              · refine At.step hm ht ⟨[(5, .b false), (12, .b false), (19, .b false), (26, .b false), (33, .b true)], [true], [], [], []⟩ 8 ⟨[], [], [], 0⟩ [((((a.getD i.toNat (0, (0, (0, (0, (0, (0, []))))))).1) : Int) != ((b.getD i.toNat (0, (0, (0, (0, (0, (0, []))))))).1)) = false, (((((a.getD i.toNat (0, (0, (0, (0, (0, (0, []))))))).2).1) : Int) != (((b.getD i.toNat (0, (0, (0, (0, (0, (0, []))))))).2).1)) = false, ((((((a.getD i.toNat (0, (0, (0, (0, (0, (0, []))))))).2).2).1) : Int) != ((((b.getD i.toNat (0, (0, (0, (0, (0, (0, []))))))).2).2).1)) = false, (((((((a.getD i.toNat (0, (0, (0, (0, (0, (0, []))))))).2).2).2).1) : Int) != (((((b.getD i.toNat (0, (0, (0, (0, (0, (0, []))))))).2).2).2).1)) = false, ((((((((a.getD i.toNat (0, (0, (0, (0, (0, (0, []))))))).2).2).2).2).1) : Int) != ((((((b.getD i.toNat (0, (0, (0, (0, (0, (0, []))))))).2).2).2).2).1)) = true, true = true] (by kernel_rfl) ⟨b622_5, b622_12, b622_19, b622_26, b622_33, rfl, trivial⟩ ?_
                have h := Option.some.inj h
                subst h
                have hk : o = f13_broughamref25_Same_out false := hk
                subst hk
                exact At.fin hm ht ⟨[], [], [], [4], []⟩ [] (by kernel_rfl) trivial
              · rcases iteS h with ⟨b622_40, h⟩ | ⟨b622_40, h⟩
                · refine At.step hm ht ⟨[(5, .b false), (12, .b false), (19, .b false), (26, .b false), (33, .b false), (40, .b true)], [true], [], [], []⟩ 8 ⟨[], [], [], 0⟩ [((((a.getD i.toNat (0, (0, (0, (0, (0, (0, []))))))).1) : Int) != ((b.getD i.toNat (0, (0, (0, (0, (0, (0, []))))))).1)) = false, (((((a.getD i.toNat (0, (0, (0, (0, (0, (0, []))))))).2).1) : Int) != (((b.getD i.toNat (0, (0, (0, (0, (0, (0, []))))))).2).1)) = false, ((((((a.getD i.toNat (0, (0, (0, (0, (0, (0, []))))))).2).2).1) : Int) != ((((b.getD i.toNat (0, (0, (0, (0, (0, (0, []))))))).2).2).1)) = false, (((((((a.getD i.toNat (0, (0, (0, (0, (0, (0, []))))))).2).2).2).1) : Int) != (((((b.getD i.toNat (0, (0, (0, (0, (0, (0, []))))))).2).2).2).1)) = false, ((((((((a.getD i.toNat (0, (0, (0, (0, (0, (0, []))))))).2).2).2).2).1) : Int) != ((((((b.getD i.toNat (0, (0, (0, (0, (0, (0, []))))))).2).2).2).2).1)) = false, (((((((((a.getD i.toNat (0, (0, (0, (0, (0, (0, []))))))).2).2).2).2).2).1) : Int) != (((((((b.getD i.toNat (0, (0, (0, (0, (0, (0, []))))))).2).2).2).2).2).1)) = true, true = true] (by kernel_rfl) ⟨b622_5, b622_12, b622_19, b622_26, b622_33, b622_40, rfl, trivial⟩ ?_
                  have h := Option.some.inj h
                  subst h
                  have hk : o = f13_broughamref25_Same_out false := hk
                  subst hk
                  exact At.fin hm ht ⟨[], [], [], [4], []⟩ [] (by kernel_rfl) trivial
                · rcases iteS h with ⟨b622_e0, h⟩ | ⟨b622_e0, h⟩
                  · refine At.step hm ht ⟨[(5, .b false), (12, .b false), (19, .b false), (26, .b false), (33, .b false), (40, .b false)], [true], [], [], []⟩ 8 ⟨[], [], [], 0⟩ [((((a.getD i.toNat (0, (0, (0, (0, (0, (0, []))))))).1) : Int) != ((b.getD i.toNat (0, (0, (0, (0, (0, (0, []))))))).1)) = false, (((((a.getD i.toNat (0, (0, (0, (0, (0, (0, []))))))).2).1) : Int) != (((b.getD i.toNat (0, (0, (0, (0, (0, (0, []))))))).2).1)) = false, ((((((a.getD i.toNat (0, (0, (0, (0, (0, (0, []))))))).2).2).1) : Int) != ((((b.getD i.toNat (0, (0, (0, (0, (0, (0, []))))))).2).2).1)) = false, (((((((a.getD i.toNat (0, (0, (0, (0, (0, (0, []))))))).2).2).2).1) : Int) != (((((b.getD i.toNat (0, (0, (0, (0, (0, (0, []))))))).2).2).2).1)) = false, ((((((((a.getD i.toNat (0, (0, (0, (0, (0, (0, []))))))).2).2).2).2).1) : Int) != ((((((b.getD i.toNat (0, (0, (0, (0, (0, (0, []))))))).2).2).2).2).1)) = false, (((((((((a.getD i.toNat (0, (0, (0, (0, (0, (0, []))))))).2).2).2).2).2).1) : Int) != (((((((b.getD i.toNat (0, (0, (0, (0, (0, (0, []))))))).2).2).2).2).2).1)) = false, (!((strOfNums (((((((a.getD i.toNat (0, (0, (0, (0, (0, (0, []))))))).2).2).2).2).2).2)).toList == (strOfNums (((((((b.getD i.toNat (0, (0, (0, (0, (0, (0, []))))))).2).2).2).2).2).2)).toList)) = true] (by kernel_rfl) ⟨b622_5, b622_12, b622_19, b622_26, b622_33, b622_40, b622_e0, trivial⟩ ?_
                    have h := Option.some.inj h
                    subst h
                    have hk : o = f13_broughamref25_Same_out false := hk
                    subst hk
                    exact At.fin hm ht ⟨[], [], [], [4], []⟩ [] (by kernel_rfl) trivial
                  · refine At.step hm ht ⟨[(5, .b false), (12, .b false), (19, .b false), (26, .b false), (33, .b false), (40, .b false)], [false], [], [0, 1, 5], []⟩ 5 ⟨[(0, oc (.d (.sl (.pair (.int .i64) (.pair (.int .i64) (.pair (.int .i64) (.pair (.int .i64) (.pair (.int .i64) (.pair (.int .i64) (.slice (.int .u8)))))))) a))), (1, oc (.d (.sl (.pair (.int .i64) (.pair (.int .i64) (.pair (.int .i64) (.pair (.int .i64) (.pair (.int .i64) (.pair (.int .i64) (.slice (.int .u8)))))))) b))), (5, oc (zi i))], [], [], 0⟩ [((((a.getD i.toNat (0, (0, (0, (0, (0, (0, []))))))).1) : Int) != ((b.getD i.toNat (0, (0, (0, (0, (0, (0, []))))))).1)) = false, (((((a.getD i.toNat (0, (0, (0, (0, (0, (0, []))))))).2).1) : Int) != (((b.getD i.toNat (0, (0, (0, (0, (0, (0, []))))))).2).1)) = false, ((((((a.getD i.toNat (0, (0, (0, (0, (0, (0, []))))))).2).2).1) : Int) != ((((b.getD i.toNat (0, (0, (0, (0, (0, (0, []))))))).2).2).1)) = false, (((((((a.getD i.toNat (0, (0, (0, (0, (0, (0, []))))))).2).2).2).1) : Int) != (((((b.getD i.toNat (0, (0, (0, (0, (0, (0, []))))))).2).2).2).1)) = false, ((((((((a.getD i.toNat (0, (0, (0, (0, (0, (0, []))))))).2).2).2).2).1) : Int) != ((((((b.getD i.toNat (0, (0, (0, (0, (0, (0, []))))))).2).2).2).2).1)) = false, (((((((((a.getD i.toNat (0, (0, (0, (0, (0, (0, []))))))).2).2).2).2).2).1) : Int) != (((((((b.getD i.toNat (0, (0, (0, (0, (0, (0, []))))))).2).2).2).2).2).1)) = false, (!((strOfNums (((((((a.getD i.toNat (0, (0, (0, (0, (0, (0, []))))))).2).2).2).2).2).2)).toList == (strOfNums (((((((b.getD i.toNat (0, (0, (0, (0, (0, (0, []))))))).2).2).2).2).2).2)).toList)) = false] (by kernel_rfl) ⟨b622_5, b622_12, b622_19, b622_26, b622_33, b622_40, b622_e0, trivial⟩ ?_
                    refine At.step hm ht ⟨[], [], [], [0, 1, 5], []⟩ 4 ⟨[(0, oc (.d (.sl (.pair (.int .i64) (.pair (.int .i64) (.pair (.int .i64) (.pair (.int .i64) (.pair (.int .i64) (.pair (.int .i64) (.slice (.int .u8)))))))) a))), (1, oc (.d (.sl (.pair (.int .i64) (.pair (.int .i64) (.pair (.int .i64) (.pair (.int .i64) (.pair (.int .i64) (.pair (.int .i64) (.slice (.int .u8)))))))) b))), (5, oc (zi (IntKind.wrap .i64 (i + 1))))], [], [], 0⟩ [] (by kernel_rfl) trivial ?_
                    exact ih a b (IntKind.wrap .i64 (i + 1)) w h o hk
    · refine At.step hm ht ⟨[], [false], [], [], []⟩ 9 ⟨[], [], [], 0⟩ [(decide ((i : Int) < ((a.length : Nat) : Int))) = false] (by kernel_rfl) ⟨b620_e0, trivial⟩ ?_
      have h := Option.some.inj h
      subst h
      exact hk
def f13_broughamref25_Same (n : Nat) (a : List (Int × Int × Int × Int × Int × Int × List Int)) (b : List (Int × Int × Int × Int × Int × Int × List Int)) : Option (Bool) :=
  if ((((a.length : Nat) : Int) : Int) != ((b.length : Nat) : Int)) = true then
    some false
  else
    (f13_broughamref25_Same_L4 n a b 0).bind fun w631 =>
    match w631 with
    | .inl e632 =>
      some e632
    | .inr e633 =>
      some true
theorem f13_broughamref25_Same_ok (n : Nat) (a : List (Int × Int × Int × Int × Int × Int × List Int)) (b : List (Int × Int × Int × Int × Int × Int × List Int)) (r : Bool) (h : f13_broughamref25_Same n a b = some r) : FnOK Tryd.prog 13 (f13_broughamref25_Same_in a b) (f13_broughamref25_Same_out r) := by
  unfold f13_broughamref25_Same at h
  refine At.fn (r := 0) Tryd.func13 rfl (by kernel_rfl) rfl rfl (by kernel_rfl) ?_
  show At Tryd.prog Tryd.f13 0 0 ⟨[(0, oc (.d (.sl (.pair (.int .i64) (.pair (.int .i64) (.pair (.int .i64) (.pair (.int .i64) (.pair (.int .i64) (.pair (.int .i64) (.slice (.int .u8)))))))) a))), (1, oc (.d (.sl (.pair (.int .i64) (.pair (.int .i64) (.pair (.int .i64) (.pair (.int .i64) (.pair (.int .i64) (.pair (.int .i64) (.slice (.int .u8)))))))) b)))], [], [], 0⟩ _
  refine At.step hm ht ⟨[], [], [], [0, 1], []⟩ 1 ⟨[(0, oc (.d (.sl (.pair (.int .i64) (.pair (.int .i64) (.pair (.int .i64) (.pair (.int .i64) (.pair (.int .i64) (.pair (.int .i64) (.slice (.int .u8)))))))) a))), (1, oc (.d (.sl (.pair (.int .i64) (.pair (.int .i64) (.pair (.int .i64) (.pair (.int .i64) (.pair (.int .i64) (.pair (.int .i64) (.slice (.int .u8)))))))) b)))], [], [], 0⟩ [] (by kernel_rfl) trivial ?_
  rcases iteS h with ⟨b617_e0, h⟩ | ⟨b617_e0, h⟩
  · refine At.step hm ht ⟨[], [true], [], [], []⟩ 2 ⟨[], [], [], 0⟩ [((((a.length : Nat) : Int) : Int) != ((b.length : Nat) : Int)) = true] (by kernel_rfl) ⟨b617_e0, trivial⟩ ?_
    have h := Option.some.inj h
    subst h
    exact At.fin hm ht ⟨[], [], [], [4], []⟩ [] (by kernel_rfl) trivial
  · refine At.step hm ht ⟨[], [false], [], [0, 1], []⟩ 3 ⟨[(0, oc (.d (.sl (.pair (.int .i64) (.pair (.int .i64) (.pair (.int .i64) (.pair (.int .i64) (.pair (.int .i64) (.pair (.int .i64) (.slice (.int .u8)))))))) a))), (1, oc (.d (.sl (.pair (.int .i64) (.pair (.int .i64) (.pair (.int .i64) (.pair (.int .i64) (.pair (.int .i64) (.pair (.int .i64) (.slice (.int .u8)))))))) b)))], [], [], 0⟩ [((((a.length : Nat) : Int) : Int) != ((b.length : Nat) : Int)) = false] (by kernel_rfl) ⟨b617_e0, trivial⟩ ?_
    refine At.step hm ht ⟨[], [], [], [0, 1, 5], []⟩ 4 ⟨[(0, oc (.d (.sl (.pair (.int .i64) (.pair (.int .i64) (.pair (.int .i64) (.pair (.int .i64) (.pair (.int .i64) (.pair (.int .i64) (.slice (.int .u8)))))))) a))), (1, oc (.d (.sl (.pair (.int .i64) (.pair (.int .i64) (.pair (.int .i64) (.pair (.int .i64) (.pair (.int .i64) (.pair (.int .i64) (.slice (.int .u8)))))))) b))), (5, oc (zi 0))], [], [], 0⟩ [] (by kernel_rfl) trivial ?_
    obtain ⟨w631, cw631, h⟩ := bindS h
    refine f13_broughamref25_Same_L4_ok n a b 0 w631 cw631 _ ?_
    rcases w631 with e632 | e633
    · have h := Option.some.inj h
      subst h
      rfl
    · show At Tryd.prog Tryd.f13 0 9 ⟨[], [], [], 0⟩ _
      have h := Option.some.inj h
      subst h
      exact At.fin hm ht ⟨[], [], [], [4], []⟩ [] (by kernel_rfl) trivial
/-! brougham/broughamlaw25.alive -/
def f14_broughamlaw25_alive_in : Inn := ⟨[], [], [], 0⟩
def f14_broughamlaw25_alive_out (r : Bool) : Out := ⟨oc (.d (.bool r)), [], [], 0⟩
def f14_broughamlaw25_alive (n : Nat) : Option (Bool) :=
  (f11_script_Parse n (⟨#[99, 111, 110, 110, 101, 99, 116, 32, 48, 32, 53, 32, 56, 48, 32, 49]⟩ : ByteArray)).bind fun r636_0 =>
  (f11_script_Parse n (⟨#[116, 105, 99, 107]⟩ : ByteArray)).bind fun r637_0 =>
  if ((r636_0.2.2 : Int) == 0) = true then
    if ((r636_0.2.1 : Int) == 0) = true then
      if ((((r636_0.1.length : Nat) : Int) : Int) == 1) = true then
        if (0 : Int) ≤ 0 ∧ 0 < (((r636_0.1).length : Nat) : Int) then
        if ((((r636_0.1.getD 0 (0, (0, (0, (0, (0, (0, []))))))).1) : Int) == 2) = true then
          if (0 : Int) ≤ 0 ∧ 0 < (((r636_0.1).length : Nat) : Int) then
          if ((((((r636_0.1.getD 0 (0, (0, (0, (0, (0, (0, []))))))).2).2).1) : Int) == 5) = true then
            if (0 : Int) ≤ 0 ∧ 0 < (((r636_0.1).length : Nat) : Int) then
            if (((((((r636_0.1.getD 0 (0, (0, (0, (0, (0, (0, []))))))).2).2).2).1) : Int) == 80) = true then
              if (0 : Int) ≤ 0 ∧ 0 < (((r636_0.1).length : Nat) : Int) then
              if ((((((((r636_0.1.getD 0 (0, (0, (0, (0, (0, (0, []))))))).2).2).2).2).1) : Int) == 1) = true then
                if ((r637_0.2.1 : Int) == 1) = true then
                  some ((r637_0.2.2 : Int) == 230)
                else
                  some false
              else
                some false
              else none
            else
              some false
            else none
          else
            some false
          else none
        else
          some false
        else none
      else
        some false
    else
      some false
  else
    some false
theorem f14_broughamlaw25_alive_ok (n : Nat) (r : Bool) (h : f14_broughamlaw25_alive n = some r) : FnOK Tryd.prog 14 (f14_broughamlaw25_alive_in) (f14_broughamlaw25_alive_out r) := by
  unfold f14_broughamlaw25_alive at h
  refine At.fn (r := 0) Tryd.func14 rfl (by kernel_rfl) rfl rfl (by kernel_rfl) ?_
  show At Tryd.prog Tryd.f14 0 0 ⟨[], [], [], 0⟩ _
  refine At.step hm ht ⟨[], [], [], [], []⟩ 1 ⟨[], [], [], 0⟩ [] (by kernel_rfl) trivial ?_
  obtain ⟨r636_0, cr636_0, h⟩ := bindS h
  refine At.step hm ht ⟨[(0, .call [] [] (f11_script_Parse_out r636_0))], [], [], [1, 2, 3], [0]⟩ 2 ⟨[(1, oc (.own 0 (.pair (.int .i64) (.pair (.int .i64) (.pair (.int .i64) (.pair (.int .i64) (.pair (.int .i64) (.pair (.int .i64) (.slice (.int .u8)))))))) r636_0.1)), (2, oc (zi r636_0.2.1)), (3, oc (zi r636_0.2.2))], [(0, some ⟨79, 0⟩)], [], 1⟩ [FnOK Tryd.prog 11 (f11_script_Parse_in (⟨#[99, 111, 110, 110, 101, 99, 116, 32, 48, 32, 53, 32, 56, 48, 32, 49]⟩ : ByteArray)) (f11_script_Parse_out r636_0)] (by kernel_rfl) ⟨(f11_script_Parse_ok n (⟨#[99, 111, 110, 110, 101, 99, 116, 32, 48, 32, 53, 32, 56, 48, 32, 49]⟩ : ByteArray) r636_0 cr636_0), trivial⟩ ?_
  obtain ⟨r637_0, cr637_0, h⟩ := bindS h
  refine At.step hm ht ⟨[(0, .call [] [] (f11_script_Parse_out r637_0))], [], [], [1, 2, 3, 5, 6], [0]⟩ 3 ⟨[(1, oc (.own 0 (.pair (.int .i64) (.pair (.int .i64) (.pair (.int .i64) (.pair (.int .i64) (.pair (.int .i64) (.pair (.int .i64) (.slice (.int .u8)))))))) r636_0.1)), (2, oc (zi r636_0.2.1)), (3, oc (zi r636_0.2.2)), (5, oc (zi r637_0.2.1)), (6, oc (zi r637_0.2.2))], [(0, some ⟨79, 0⟩)], [], 1⟩ [FnOK Tryd.prog 11 (f11_script_Parse_in (⟨#[116, 105, 99, 107]⟩ : ByteArray)) (f11_script_Parse_out r637_0)] (by kernel_rfl) ⟨(f11_script_Parse_ok n (⟨#[116, 105, 99, 107]⟩ : ByteArray) r637_0 cr637_0), trivial⟩ ?_
  rcases iteS h with ⟨b638_2, h⟩ | ⟨b638_2, h⟩
  · rcases iteS h with ⟨b638_6, h⟩ | ⟨b638_6, h⟩
    · rcases iteS h with ⟨b638_11, h⟩ | ⟨b638_11, h⟩
      · obtain ⟨g638_0, h⟩ := ifS h
        rcases iteS h with ⟨b638_18, h⟩ | ⟨b638_18, h⟩
        · obtain ⟨g638_1, h⟩ := ifS h
          rcases iteS h with ⟨b638_25, h⟩ | ⟨b638_25, h⟩
          · obtain ⟨g638_2, h⟩ := ifS h
            rcases iteS h with ⟨b638_32, h⟩ | ⟨b638_32, h⟩
            · obtain ⟨g638_3, h⟩ := ifS h
              rcases iteS h with ⟨b638_39, h⟩ | ⟨b638_39, h⟩
              · rcases iteS h with ⟨b638_43, h⟩ | ⟨b638_43, h⟩
                · have h := Option.some.inj h
                  subst h
                  exact At.fin hm ht ⟨[(2, .b true), (6, .b true), (11, .b true), (18, .b true), (25, .b true), (32, .b true), (39, .b true), (43, .b true)], [], [], [0], []⟩ [((r636_0.2.2 : Int) == 0) = true, ((r636_0.2.1 : Int) == 0) = true, ((((r636_0.1.length : Nat) : Int) : Int) == 1) = true, (0 : Int) ≤ 0 ∧ 0 < (((r636_0.1).length : Nat) : Int), ((((r636_0.1.getD 0 (0, (0, (0, (0, (0, (0, []))))))).1) : Int) == 2) = true, (0 : Int) ≤ 0 ∧ 0 < (((r636_0.1).length : Nat) : Int), ((((((r636_0.1.getD 0 (0, (0, (0, (0, (0, (0, []))))))).2).2).1) : Int) == 5) = true, (0 : Int) ≤ 0 ∧ 0 < (((r636_0.1).length : Nat) : Int), (((((((r636_0.1.getD 0 (0, (0, (0, (0, (0, (0, []))))))).2).2).2).1) : Int) == 80) = true, (0 : Int) ≤ 0 ∧ 0 < (((r636_0.1).length : Nat) : Int), ((((((((r636_0.1.getD 0 (0, (0, (0, (0, (0, (0, []))))))).2).2).2).2).1) : Int) == 1) = true, ((r637_0.2.1 : Int) == 1) = true] (by kernel_rfl) ⟨b638_2, b638_6, b638_11, g638_0, b638_18, g638_1, b638_25, g638_2, b638_32, g638_3, b638_39, b638_43, trivial⟩
                · have h := Option.some.inj h
                  subst h
                  exact At.fin hm ht ⟨[(2, .b true), (6, .b true), (11, .b true), (18, .b true), (25, .b true), (32, .b true), (39, .b true), (43, .b false)], [], [], [0], []⟩ [((r636_0.2.2 : Int) == 0) = true, ((r636_0.2.1 : Int) == 0) = true, ((((r636_0.1.length : Nat) : Int) : Int) == 1) = true, (0 : Int) ≤ 0 ∧ 0 < (((r636_0.1).length : Nat) : Int), ((((r636_0.1.getD 0 (0, (0, (0, (0, (0, (0, []))))))).1) : Int) == 2) = true, (0 : Int) ≤ 0 ∧ 0 < (((r636_0.1).length : Nat) : Int), ((((((r636_0.1.getD 0 (0, (0, (0, (0, (0, (0, []))))))).2).2).1) : Int) == 5) = true, (0 : Int) ≤ 0 ∧ 0 < (((r636_0.1).length : Nat) : Int), (((((((r636_0.1.getD 0 (0, (0, (0, (0, (0, (0, []))))))).2).2).2).1) : Int) == 80) = true, (0 : Int) ≤ 0 ∧ 0 < (((r636_0.1).length : Nat) : Int), ((((((((r636_0.1.getD 0 (0, (0, (0, (0, (0, (0, []))))))).2).2).2).2).1) : Int) == 1) = true, ((r637_0.2.1 : Int) == 1) = false] (by kernel_rfl) ⟨b638_2, b638_6, b638_11, g638_0, b638_18, g638_1, b638_25, g638_2, b638_32, g638_3, b638_39, b638_43, trivial⟩
              · have h := Option.some.inj h
                subst h
                exact At.fin hm ht ⟨[(2, .b true), (6, .b true), (11, .b true), (18, .b true), (25, .b true), (32, .b true), (39, .b false)], [], [], [0], []⟩ [((r636_0.2.2 : Int) == 0) = true, ((r636_0.2.1 : Int) == 0) = true, ((((r636_0.1.length : Nat) : Int) : Int) == 1) = true, (0 : Int) ≤ 0 ∧ 0 < (((r636_0.1).length : Nat) : Int), ((((r636_0.1.getD 0 (0, (0, (0, (0, (0, (0, []))))))).1) : Int) == 2) = true, (0 : Int) ≤ 0 ∧ 0 < (((r636_0.1).length : Nat) : Int), ((((((r636_0.1.getD 0 (0, (0, (0, (0, (0, (0, []))))))).2).2).1) : Int) == 5) = true, (0 : Int) ≤ 0 ∧ 0 < (((r636_0.1).length : Nat) : Int), (((((((r636_0.1.getD 0 (0, (0, (0, (0, (0, (0, []))))))).2).2).2).1) : Int) == 80) = true, (0 : Int) ≤ 0 ∧ 0 < (((r636_0.1).length : Nat) : Int), ((((((((r636_0.1.getD 0 (0, (0, (0, (0, (0, (0, []))))))).2).2).2).2).1) : Int) == 1) = false] (by kernel_rfl) ⟨b638_2, b638_6, b638_11, g638_0, b638_18, g638_1, b638_25, g638_2, b638_32, g638_3, b638_39, trivial⟩
            · have h := Option.some.inj h
              subst h
              exact At.fin hm ht ⟨[(2, .b true), (6, .b true), (11, .b true), (18, .b true), (25, .b true), (32, .b false)], [], [], [0], []⟩ [((r636_0.2.2 : Int) == 0) = true, ((r636_0.2.1 : Int) == 0) = true, ((((r636_0.1.length : Nat) : Int) : Int) == 1) = true, (0 : Int) ≤ 0 ∧ 0 < (((r636_0.1).length : Nat) : Int), ((((r636_0.1.getD 0 (0, (0, (0, (0, (0, (0, []))))))).1) : Int) == 2) = true, (0 : Int) ≤ 0 ∧ 0 < (((r636_0.1).length : Nat) : Int), ((((((r636_0.1.getD 0 (0, (0, (0, (0, (0, (0, []))))))).2).2).1) : Int) == 5) = true, (0 : Int) ≤ 0 ∧ 0 < (((r636_0.1).length : Nat) : Int), (((((((r636_0.1.getD 0 (0, (0, (0, (0, (0, (0, []))))))).2).2).2).1) : Int) == 80) = false] (by kernel_rfl) ⟨b638_2, b638_6, b638_11, g638_0, b638_18, g638_1, b638_25, g638_2, b638_32, trivial⟩
          · have h := Option.some.inj h
            subst h
            exact At.fin hm ht ⟨[(2, .b true), (6, .b true), (11, .b true), (18, .b true), (25, .b false)], [], [], [0], []⟩ [((r636_0.2.2 : Int) == 0) = true, ((r636_0.2.1 : Int) == 0) = true, ((((r636_0.1.length : Nat) : Int) : Int) == 1) = true, (0 : Int) ≤ 0 ∧ 0 < (((r636_0.1).length : Nat) : Int), ((((r636_0.1.getD 0 (0, (0, (0, (0, (0, (0, []))))))).1) : Int) == 2) = true, (0 : Int) ≤ 0 ∧ 0 < (((r636_0.1).length : Nat) : Int), ((((((r636_0.1.getD 0 (0, (0, (0, (0, (0, (0, []))))))).2).2).1) : Int) == 5) = false] (by kernel_rfl) ⟨b638_2, b638_6, b638_11, g638_0, b638_18, g638_1, b638_25, trivial⟩
        · have h := Option.some.inj h
          subst h
          exact At.fin hm ht ⟨[(2, .b true), (6, .b true), (11, .b true), (18, .b false)], [], [], [0], []⟩ [((r636_0.2.2 : Int) == 0) = true, ((r636_0.2.1 : Int) == 0) = true, ((((r636_0.1.length : Nat) : Int) : Int) == 1) = true, (0 : Int) ≤ 0 ∧ 0 < (((r636_0.1).length : Nat) : Int), ((((r636_0.1.getD 0 (0, (0, (0, (0, (0, (0, []))))))).1) : Int) == 2) = false] (by kernel_rfl) ⟨b638_2, b638_6, b638_11, g638_0, b638_18, trivial⟩
      · have h := Option.some.inj h
        subst h
        exact At.fin hm ht ⟨[(2, .b true), (6, .b true), (11, .b false)], [], [], [0], []⟩ [((r636_0.2.2 : Int) == 0) = true, ((r636_0.2.1 : Int) == 0) = true, ((((r636_0.1.length : Nat) : Int) : Int) == 1) = false] (by kernel_rfl) ⟨b638_2, b638_6, b638_11, trivial⟩
    · have h := Option.some.inj h
      subst h
      exact At.fin hm ht ⟨[(2, .b true), (6, .b false)], [], [], [0], []⟩ [((r636_0.2.2 : Int) == 0) = true, ((r636_0.2.1 : Int) == 0) = false] (by kernel_rfl) ⟨b638_2, b638_6, trivial⟩
  · have h := Option.some.inj h
    subst h
    exact At.fin hm ht ⟨[(2, .b false)], [], [], [0], []⟩ [((r636_0.2.2 : Int) == 0) = false] (by kernel_rfl) ⟨b638_2, trivial⟩
/-! brougham/broughamlaw25.ScriptReads -/
def f3_broughamlaw25_ScriptReads_in (s : ByteArray) : Inn := ⟨[.c (.d (.str s))], [], [], 0⟩
def f3_broughamlaw25_ScriptReads_out (r : Bool) : Out := ⟨oc (.d (.bool r)), [], [], 0⟩
def f3_broughamlaw25_ScriptReads (n : Nat) (s : ByteArray) : Option (Bool) :=
  if (decide ((((s.size : Nat) : Int) : Int) > 70000)) = true then
    some true
  else
    (f11_script_Parse n s).bind fun r4_0 =>
    (f12_broughamref25_Parse n s).bind fun r309_0 =>
    if ((r4_0.2.1 : Int) == r309_0.2.1) = true then
      if ((r4_0.2.2 : Int) == r309_0.2.2) = true then
        (f13_broughamref25_Same n r4_0.1 r309_0.1).bind fun r615_0 =>
        if r615_0 = true then
          (f14_broughamlaw25_alive n).bind fun r615_1 =>
          some r615_1
        else
          some false
      else
        some false
    else
      some false
theorem f3_broughamlaw25_ScriptReads_ok (n : Nat) (s : ByteArray) (r : Bool) (h : f3_broughamlaw25_ScriptReads n s = some r) : FnOK Tryd.prog 3 (f3_broughamlaw25_ScriptReads_in s) (f3_broughamlaw25_ScriptReads_out r) := by
  unfold f3_broughamlaw25_ScriptReads at h
  refine At.fn (r := 0) Tryd.func3 rfl (by kernel_rfl) rfl rfl (by kernel_rfl) ?_
  show At Tryd.prog Tryd.f3 0 0 ⟨[(0, oc (.d (.str s)))], [], [], 0⟩ _
  refine At.step hm ht ⟨[], [], [], [0], []⟩ 1 ⟨[(0, oc (.d (.str s)))], [], [], 0⟩ [] (by kernel_rfl) trivial ?_
  rcases iteS h with ⟨b2_e0, h⟩ | ⟨b2_e0, h⟩
  · refine At.step hm ht ⟨[], [true], [], [], []⟩ 2 ⟨[], [], [], 0⟩ [(decide ((((s.size : Nat) : Int) : Int) > 70000)) = true] (by kernel_rfl) ⟨b2_e0, trivial⟩ ?_
    have h := Option.some.inj h
    subst h
    exact At.fin hm ht ⟨[], [], [], [2], []⟩ [] (by kernel_rfl) trivial
  · refine At.step hm ht ⟨[], [false], [], [0], []⟩ 3 ⟨[(0, oc (.d (.str s)))], [], [], 0⟩ [(decide ((((s.size : Nat) : Int) : Int) > 70000)) = false] (by kernel_rfl) ⟨b2_e0, trivial⟩ ?_
    obtain ⟨r4_0, cr4_0, h⟩ := bindS h
    refine At.step hm ht ⟨[(1, .call [] [] (f11_script_Parse_out r4_0))], [], [], [0, 3, 4, 5], [1]⟩ 4 ⟨[(0, oc (.d (.str s))), (3, oc (.own 0 (.pair (.int .i64) (.pair (.int .i64) (.pair (.int .i64) (.pair (.int .i64) (.pair (.int .i64) (.pair (.int .i64) (.slice (.int .u8)))))))) r4_0.1)), (4, oc (zi r4_0.2.1)), (5, oc (zi r4_0.2.2))], [(0, some ⟨79, 0⟩)], [], 1⟩ [FnOK Tryd.prog 11 (f11_script_Parse_in s) (f11_script_Parse_out r4_0)] (by kernel_rfl) ⟨(f11_script_Parse_ok n s r4_0 cr4_0), trivial⟩ ?_
    obtain ⟨r309_0, cr309_0, h⟩ := bindS h
    refine At.step hm ht ⟨[(1, .call [] [] (f12_broughamref25_Parse_out r309_0))], [], [], [3, 4, 5, 6, 7, 8], [0, 2]⟩ 5 ⟨[(3, oc (.own 0 (.pair (.int .i64) (.pair (.int .i64) (.pair (.int .i64) (.pair (.int .i64) (.pair (.int .i64) (.pair (.int .i64) (.slice (.int .u8)))))))) r4_0.1)), (4, oc (zi r4_0.2.1)), (5, oc (zi r4_0.2.2)), (6, oc (.own 1 (.pair (.int .i64) (.pair (.int .i64) (.pair (.int .i64) (.pair (.int .i64) (.pair (.int .i64) (.pair (.int .i64) (.slice (.int .u8)))))))) r309_0.1)), (7, oc (zi r309_0.2.1)), (8, oc (zi r309_0.2.2))], [(0, some ⟨79, 0⟩), (1, some ⟨79, 0⟩)], [], 2⟩ [FnOK Tryd.prog 12 (f12_broughamref25_Parse_in s) (f12_broughamref25_Parse_out r309_0)] (by kernel_rfl) ⟨(f12_broughamref25_Parse_ok n s r309_0 cr309_0), trivial⟩ ?_
    rcases iteS h with ⟨b615_3, h⟩ | ⟨b615_3, h⟩
    · rcases iteS h with ⟨b615_8, h⟩ | ⟨b615_8, h⟩
      · obtain ⟨r615_0, cr615_0, h⟩ := bindS h
        rcases iteS h with ⟨b615_13, h⟩ | ⟨b615_13, h⟩
        · obtain ⟨r615_1, cr615_1, h⟩ := bindS h
          have h := Option.some.inj h
          subst h
          exact At.fin hm ht ⟨[(3, .b true), (8, .b true), (11, .call [] [] (f13_broughamref25_Same_out r615_0)), (13, .b true), (14, .call [] [] (f14_broughamlaw25_alive_out r615_1))], [], [], [2], []⟩ [((r4_0.2.1 : Int) == r309_0.2.1) = true, ((r4_0.2.2 : Int) == r309_0.2.2) = true, FnOK Tryd.prog 13 (f13_broughamref25_Same_in r4_0.1 r309_0.1) (f13_broughamref25_Same_out r615_0), r615_0 = true, FnOK Tryd.prog 14 (f14_broughamlaw25_alive_in) (f14_broughamlaw25_alive_out r615_1)] (by kernel_rfl) ⟨b615_3, b615_8, (f13_broughamref25_Same_ok n r4_0.1 r309_0.1 r615_0 cr615_0), b615_13, (f14_broughamlaw25_alive_ok n r615_1 cr615_1), trivial⟩
        · have h := Option.some.inj h
          subst h
          exact At.fin hm ht ⟨[(3, .b true), (8, .b true), (11, .call [] [] (f13_broughamref25_Same_out r615_0)), (13, .b false)], [], [], [2], []⟩ [((r4_0.2.1 : Int) == r309_0.2.1) = true, ((r4_0.2.2 : Int) == r309_0.2.2) = true, FnOK Tryd.prog 13 (f13_broughamref25_Same_in r4_0.1 r309_0.1) (f13_broughamref25_Same_out r615_0), r615_0 = false] (by kernel_rfl) ⟨b615_3, b615_8, (f13_broughamref25_Same_ok n r4_0.1 r309_0.1 r615_0 cr615_0), b615_13, trivial⟩
      · have h := Option.some.inj h
        subst h
        exact At.fin hm ht ⟨[(3, .b true), (8, .b false)], [], [], [2], []⟩ [((r4_0.2.1 : Int) == r309_0.2.1) = true, ((r4_0.2.2 : Int) == r309_0.2.2) = false] (by kernel_rfl) ⟨b615_3, b615_8, trivial⟩
    · have h := Option.some.inj h
      subst h
      exact At.fin hm ht ⟨[(3, .b false)], [], [], [2], []⟩ [((r4_0.2.1 : Int) == r309_0.2.1) = false] (by kernel_rfl) ⟨b615_3, trivial⟩
/-! brougham/broughamlaw25.great -/
def f39_broughamlaw25_great_in (l : List (Int × Int × Int × Int × Int × Int × List Int)) : Inn := ⟨[.c (.d (.sl (.pair (.int .i64) (.pair (.int .i64) (.pair (.int .i64) (.pair (.int .i64) (.pair (.int .i64) (.pair (.int .i64) (.slice (.int .u8)))))))) l))], [], [], 0⟩
def f39_broughamlaw25_great_out (r : Bool) : Out := ⟨oc (.d (.bool r)), [], [], 0⟩
def f39_broughamlaw25_great_L3 : Nat → (List (Int × Int × Int × Int × Int × Int × List Int)) → Int → Int → Option ((Bool) ⊕ (List (Int × Int × Int × Int × Int × Int × List Int)))
  | 0, _, _, _ => none
  | n + 1, l, n_, i =>
    if (decide ((i : Int) < ((l.length : Nat) : Int))) = true then
      if (decide ((i : Int) < 600)) = true then
        if (0 : Int) ≤ i ∧ i < (((l).length : Nat) : Int) then
        if (decide (((IntKind.wrap .i64 (n_ + (((((((((l.getD i.toNat (0, (0, (0, (0, (0, (0, []))))))).2).2).2).2).2).2).length : Nat) : Int))) : Int) > 40000)) = true then
          some (.inl true)
        else
          f39_broughamlaw25_great_L3 n l (IntKind.wrap .i64 (n_ + (((((((((l.getD i.toNat (0, (0, (0, (0, (0, (0, []))))))).2).2).2).2).2).2).length : Nat) : Int))) (IntKind.wrap .i64 (i + 1))
        else none
      else
        some (.inr l)
    else
      some (.inr l)
def f39_broughamlaw25_great_L3_k (w : (Bool) ⊕ (List (Int × Int × Int × Int × Int × Int × List Int))) (o : Out) : Prop := match w with
  | .inl e => o = f39_broughamlaw25_great_out e
  | .inr e => At Tryd.prog Tryd.f39 0 8 ⟨[(0, oc (.d (.sl (.pair (.int .i64) (.pair (.int .i64) (.pair (.int .i64) (.pair (.int .i64) (.pair (.int .i64) (.pair (.int .i64) (.slice (.int .u8)))))))) e)))], [], [], 0⟩ o
theorem f39_broughamlaw25_great_L3_ok (n : Nat) : ∀ (l : List (Int × Int × Int × Int × Int × Int × List Int)) (n_ : Int) (i : Int) (w : (Bool) ⊕ (List (Int × Int × Int × Int × Int × Int × List Int))) (h : f39_broughamlaw25_great_L3 n l n_ i = some w) (o : Out) (hk : f39_broughamlaw25_great_L3_k w o), At Tryd.prog Tryd.f39 0 3 ⟨[(0, oc (.d (.sl (.pair (.int .i64) (.pair (.int .i64) (.pair (.int .i64) (.pair (.int .i64) (.pair (.int .i64) (.pair (.int .i64) (.slice (.int .u8)))))))) l))), (3, oc (zi n_)), (4, oc (zi i))], [], [], 0⟩ o := by
  induction n with
  | zero => intro l n_ i w h; rw [f39_broughamlaw25_great_L3] at h; cases h
  | succ n ih =>
    intro l n_ i w h o hk
    rw [f39_broughamlaw25_great_L3] at h
    rcases iteS h with ⟨b644_4, h⟩ | ⟨b644_4, h⟩
    · rcases iteS h with ⟨b644_e0, h⟩ | ⟨b644_e0, h⟩
      · refine At.step hm ht ⟨[(4, .b true)], [true], [], [0, 3, 4], []⟩ 5 ⟨[(0, oc (.d (.sl (.pair (.int .i64) (.pair (.int .i64) (.pair (.int .i64) (.pair (.int .i64) (.pair (.int .i64) (.pair (.int .i64) (.slice (.int .u8)))))))) l))), (3, oc (zi n_)), (4, oc (zi i))], [], [], 0⟩ [(decide ((i : Int) < ((l.length : Nat) : Int))) = true, (decide ((i : Int) < 600)) = true] (by kernel_rfl) ⟨b644_4, b644_e0, trivial⟩ ?_
        obtain ⟨g645_0, h⟩ := ifS h
        refine At.step hm ht ⟨[], [], [], [0, 3, 4], []⟩ 6 ⟨[(0, oc (.d (.sl (.pair (.int .i64) (.pair (.int .i64) (.pair (.int .i64) (.pair (.int .i64) (.pair (.int .i64) (.pair (.int .i64) (.slice (.int .u8)))))))) l))), (3, oc (zi (IntKind.wrap .i64 (n_ + (((((((((l.getD i.toNat (0, (0, (0, (0, (0, (0, []))))))).2).2).2).2).2).2).length : Nat) : Int))))), (4, oc (zi i))], [], [], 0⟩ [(0 : Int) ≤ i ∧ i < (((l).length : Nat) : Int)] (by kernel_rfl) ⟨g645_0, trivial⟩ ?_
        rcases iteS h with ⟨b646_e0, h⟩ | ⟨b646_e0, h⟩
        · refine At.step hm ht ⟨[], [true], [], [], []⟩ 7 ⟨[], [], [], 0⟩ [(decide (((IntKind.wrap .i64 (n_ + (((((((((l.getD i.toNat (0, (0, (0, (0, (0, (0, []))))))).2).2).2).2).2).2).length : Nat) : Int))) : Int) > 40000)) = true] (by kernel_rfl) ⟨b646_e0, trivial⟩ ?_
          have h := Option.some.inj h
          subst h
          have hk : o = f39_broughamlaw25_great_out true := hk
          subst hk
          exact At.fin hm ht ⟨[], [], [], [2], []⟩ [] (by kernel_rfl) trivial
        · refine At.step hm ht ⟨[], [false], [], [0, 3, 4], []⟩ 4 ⟨[(0, oc (.d (.sl (.pair (.int .i64) (.pair (.int .i64) (.pair (.int .i64) (.pair (.int .i64) (.pair (.int .i64) (.pair (.int .i64) (.slice (.int .u8)))))))) l))), (3, oc (zi (IntKind.wrap .i64 (n_ + (((((((((l.getD i.toNat (0, (0, (0, (0, (0, (0, []))))))).2).2).2).2).2).2).length : Nat) : Int))))), (4, oc (zi i))], [], [], 0⟩ [(decide (((IntKind.wrap .i64 (n_ + (((((((((l.getD i.toNat (0, (0, (0, (0, (0, (0, []))))))).2).2).2).2).2).2).length : Nat) : Int))) : Int) > 40000)) = false] (by kernel_rfl) ⟨b646_e0, trivial⟩ ?_
          refine At.step hm ht ⟨[], [], [], [0, 3, 4], []⟩ 3 ⟨[(0, oc (.d (.sl (.pair (.int .i64) (.pair (.int .i64) (.pair (.int .i64) (.pair (.int .i64) (.pair (.int .i64) (.pair (.int .i64) (.slice (.int .u8)))))))) l))), (3, oc (zi (IntKind.wrap .i64 (n_ + (((((((((l.getD i.toNat (0, (0, (0, (0, (0, (0, []))))))).2).2).2).2).2).2).length : Nat) : Int))))), (4, oc (zi (IntKind.wrap .i64 (i + 1))))], [], [], 0⟩ [] (by kernel_rfl) trivial ?_
          exact ih l (IntKind.wrap .i64 (n_ + (((((((((l.getD i.toNat (0, (0, (0, (0, (0, (0, []))))))).2).2).2).2).2).2).length : Nat) : Int))) (IntKind.wrap .i64 (i + 1)) w h o hk
      · refine At.step hm ht ⟨[(4, .b true)], [false], [], [0], []⟩ 8 ⟨[(0, oc (.d (.sl (.pair (.int .i64) (.pair (.int .i64) (.pair (.int .i64) (.pair (.int .i64) (.pair (.int .i64) (.pair (.int .i64) (.slice (.int .u8)))))))) l)))], [], [], 0⟩ [(decide ((i : Int) < ((l.length : Nat) : Int))) = true, (decide ((i : Int) < 600)) = false] (by kernel_rfl) ⟨b644_4, b644_e0, trivial⟩ ?_
        have h := Option.some.inj h
        subst h
        exact hk
    · refine At.step hm ht ⟨[(4, .b false)], [false], [], [0], []⟩ 8 ⟨[(0, oc (.d (.sl (.pair (.int .i64) (.pair (.int .i64) (.pair (.int .i64) (.pair (.int .i64) (.pair (.int .i64) (.pair (.int .i64) (.slice (.int .u8)))))))) l)))], [], [], 0⟩ [(decide ((i : Int) < ((l.length : Nat) : Int))) = false, false = false] (by kernel_rfl) ⟨b644_4, rfl, trivial⟩ ?_
      have h := Option.some.inj h
      subst h
      exact hk
def f39_broughamlaw25_great (n : Nat) (l : List (Int × Int × Int × Int × Int × Int × List Int)) : Option (Bool) :=
  (f39_broughamlaw25_great_L3 n l 0 0).bind fun w649 =>
  match w649 with
  | .inl e650 =>
    some e650
  | .inr e651 =>
    some (decide ((((e651.length : Nat) : Int) : Int) > 600))
theorem f39_broughamlaw25_great_ok (n : Nat) (l : List (Int × Int × Int × Int × Int × Int × List Int)) (r : Bool) (h : f39_broughamlaw25_great n l = some r) : FnOK Tryd.prog 39 (f39_broughamlaw25_great_in l) (f39_broughamlaw25_great_out r) := by
  unfold f39_broughamlaw25_great at h
  refine At.fn (r := 0) Tryd.func39 rfl (by kernel_rfl) rfl rfl (by kernel_rfl) ?_
  show At Tryd.prog Tryd.f39 0 0 ⟨[(0, oc (.d (.sl (.pair (.int .i64) (.pair (.int .i64) (.pair (.int .i64) (.pair (.int .i64) (.pair (.int .i64) (.pair (.int .i64) (.slice (.int .u8)))))))) l)))], [], [], 0⟩ _
  refine At.step hm ht ⟨[], [], [], [0], []⟩ 1 ⟨[(0, oc (.d (.sl (.pair (.int .i64) (.pair (.int .i64) (.pair (.int .i64) (.pair (.int .i64) (.pair (.int .i64) (.pair (.int .i64) (.slice (.int .u8)))))))) l)))], [], [], 0⟩ [] (by kernel_rfl) trivial ?_
  refine At.step hm ht ⟨[], [], [], [0, 3], []⟩ 2 ⟨[(0, oc (.d (.sl (.pair (.int .i64) (.pair (.int .i64) (.pair (.int .i64) (.pair (.int .i64) (.pair (.int .i64) (.pair (.int .i64) (.slice (.int .u8)))))))) l))), (3, oc (zi 0))], [], [], 0⟩ [] (by kernel_rfl) trivial ?_
  refine At.step hm ht ⟨[], [], [], [0, 3, 4], []⟩ 3 ⟨[(0, oc (.d (.sl (.pair (.int .i64) (.pair (.int .i64) (.pair (.int .i64) (.pair (.int .i64) (.pair (.int .i64) (.pair (.int .i64) (.slice (.int .u8)))))))) l))), (3, oc (zi 0)), (4, oc (zi 0))], [], [], 0⟩ [] (by kernel_rfl) trivial ?_
  obtain ⟨w649, cw649, h⟩ := bindS h
  refine f39_broughamlaw25_great_L3_ok n l 0 0 w649 cw649 _ ?_
  rcases w649 with e650 | e651
  · have h := Option.some.inj h
    subst h
    rfl
  · show At Tryd.prog Tryd.f39 0 8 ⟨[(0, oc (.d (.sl (.pair (.int .i64) (.pair (.int .i64) (.pair (.int .i64) (.pair (.int .i64) (.pair (.int .i64) (.pair (.int .i64) (.slice (.int .u8)))))))) e651)))], [], [], 0⟩ _
    have h := Option.some.inj h
    subst h
    exact At.fin hm ht ⟨[], [], [], [2], []⟩ [] (by kernel_rfl) trivial
/-! brougham/broughamref25.get -/
def f74_broughamref25_get_in (s_0 : Int) (s_1 : Int) (s_2 : Int) (s_3 : Int) (s_4 : Int) (s_5 : Int) (s_6 : List Int) (c : Int) : Inn := ⟨[.agg [zi s_0, zi s_1, zi s_2, zi s_3, zi s_4, zi s_5, .d (.sl (.int .u8) s_6)], .c (.d (.int .u8 c))], [], [], 0⟩
def f74_broughamref25_get_out (r : Int) : Out := ⟨oc (zi r), [], [], 0⟩
def f74_broughamref25_get (s_0 : Int) (s_1 : Int) (s_2 : Int) (s_3 : Int) (s_4 : Int) (s_5 : Int) (s_6 : List Int) (c : Int) : Option (Int) :=
  if ((c : Int) == 104) = true then
    some s_1
  else
    if ((c : Int) == 110) = true then
      some s_2
    else
      if ((c : Int) == 112) = true then
        some s_3
      else
        if ((c : Int) == 119) = true then
          some s_4
        else
          some s_5
theorem f74_broughamref25_get_ok (s_0 : Int) (s_1 : Int) (s_2 : Int) (s_3 : Int) (s_4 : Int) (s_5 : Int) (s_6 : List Int) (c : Int) (r : Int) (h : f74_broughamref25_get s_0 s_1 s_2 s_3 s_4 s_5 s_6 c = some r) : FnOK Tryd.prog 74 (f74_broughamref25_get_in s_0 s_1 s_2 s_3 s_4 s_5 s_6 c) (f74_broughamref25_get_out r) := by
  unfold f74_broughamref25_get at h
  refine At.fn (r := 0) Tryd.func74 rfl (by kernel_rfl) rfl rfl (by kernel_rfl) ?_
  show At Tryd.prog Tryd.f74 0 0 ⟨[(0, .one (.agg [zi s_0, zi s_1, zi s_2, zi s_3, zi s_4, zi s_5, .d (.sl (.int .u8) s_6)])), (1, oc (.d (.int .u8 c)))], [], [], 0⟩ _
  refine At.step hm ht ⟨[], [], [], [1, 2], [0]⟩ 1 ⟨[(1, oc (.d (.int .u8 c))), (2, oc (.ptr 0 0))], [], [(0, [zi s_0, zi s_1, zi s_2, zi s_3, zi s_4, zi s_5, .d (.sl (.int .u8) s_6)])], 1⟩ [] (by kernel_rfl) trivial ?_
  rcases iteS h with ⟨b673_e0, h⟩ | ⟨b673_e0, h⟩
  · refine At.step hm ht ⟨[], [true], [], [2], [0]⟩ 2 ⟨[(2, oc (.ptr 0 0))], [], [(0, [zi s_0, zi s_1, zi s_2, zi s_3, zi s_4, zi s_5, .d (.sl (.int .u8) s_6)])], 1⟩ [((c : Int) == 104) = true] (by kernel_rfl) ⟨b673_e0, trivial⟩ ?_
    have h := Option.some.inj h
    subst h
    exact At.fin hm ht ⟨[], [], [], [4], []⟩ [] (by kernel_rfl) trivial
  · refine At.step hm ht ⟨[], [false], [], [1, 2], [0]⟩ 3 ⟨[(1, oc (.d (.int .u8 c))), (2, oc (.ptr 0 0))], [], [(0, [zi s_0, zi s_1, zi s_2, zi s_3, zi s_4, zi s_5, .d (.sl (.int .u8) s_6)])], 1⟩ [((c : Int) == 104) = false] (by kernel_rfl) ⟨b673_e0, trivial⟩ ?_
    rcases iteS h with ⟨b675_e0, h⟩ | ⟨b675_e0, h⟩
    · refine At.step hm ht ⟨[], [true], [], [2], [0]⟩ 4 ⟨[(2, oc (.ptr 0 0))], [], [(0, [zi s_0, zi s_1, zi s_2, zi s_3, zi s_4, zi s_5, .d (.sl (.int .u8) s_6)])], 1⟩ [((c : Int) == 110) = true] (by kernel_rfl) ⟨b675_e0, trivial⟩ ?_
      have h := Option.some.inj h
      subst h
      exact At.fin hm ht ⟨[], [], [], [4], []⟩ [] (by kernel_rfl) trivial
    · refine At.step hm ht ⟨[], [false], [], [1, 2], [0]⟩ 5 ⟨[(1, oc (.d (.int .u8 c))), (2, oc (.ptr 0 0))], [], [(0, [zi s_0, zi s_1, zi s_2, zi s_3, zi s_4, zi s_5, .d (.sl (.int .u8) s_6)])], 1⟩ [((c : Int) == 110) = false] (by kernel_rfl) ⟨b675_e0, trivial⟩ ?_
      rcases iteS h with ⟨b677_e0, h⟩ | ⟨b677_e0, h⟩
      · refine At.step hm ht ⟨[], [true], [], [2], [0]⟩ 6 ⟨[(2, oc (.ptr 0 0))], [], [(0, [zi s_0, zi s_1, zi s_2, zi s_3, zi s_4, zi s_5, .d (.sl (.int .u8) s_6)])], 1⟩ [((c : Int) == 112) = true] (by kernel_rfl) ⟨b677_e0, trivial⟩ ?_
        have h := Option.some.inj h
        subst h
        exact At.fin hm ht ⟨[], [], [], [4], []⟩ [] (by kernel_rfl) trivial
      · refine At.step hm ht ⟨[], [false], [], [1, 2], [0]⟩ 7 ⟨[(1, oc (.d (.int .u8 c))), (2, oc (.ptr 0 0))], [], [(0, [zi s_0, zi s_1, zi s_2, zi s_3, zi s_4, zi s_5, .d (.sl (.int .u8) s_6)])], 1⟩ [((c : Int) == 112) = false] (by kernel_rfl) ⟨b677_e0, trivial⟩ ?_
        rcases iteS h with ⟨b679_e0, h⟩ | ⟨b679_e0, h⟩
        · refine At.step hm ht ⟨[], [true], [], [2], [0]⟩ 8 ⟨[(2, oc (.ptr 0 0))], [], [(0, [zi s_0, zi s_1, zi s_2, zi s_3, zi s_4, zi s_5, .d (.sl (.int .u8) s_6)])], 1⟩ [((c : Int) == 119) = true] (by kernel_rfl) ⟨b679_e0, trivial⟩ ?_
          have h := Option.some.inj h
          subst h
          exact At.fin hm ht ⟨[], [], [], [4], []⟩ [] (by kernel_rfl) trivial
        · refine At.step hm ht ⟨[], [false], [], [2], [0]⟩ 9 ⟨[(2, oc (.ptr 0 0))], [], [(0, [zi s_0, zi s_1, zi s_2, zi s_3, zi s_4, zi s_5, .d (.sl (.int .u8) s_6)])], 1⟩ [((c : Int) == 119) = false] (by kernel_rfl) ⟨b679_e0, trivial⟩ ?_
          have h := Option.some.inj h
          subst h
          exact At.fin hm ht ⟨[], [], [], [4], []⟩ [] (by kernel_rfl) trivial
/-! brougham/broughamref25.has -/
def f75_broughamref25_has_in (s : ByteArray) (c : Int) : Inn := ⟨[.c (.d (.str s)), .c (.d (.int .u8 c))], [], [], 0⟩
def f75_broughamref25_has_out (r : Bool) : Out := ⟨oc (.d (.bool r)), [], [], 0⟩
def f75_broughamref25_has_L2 : Nat → ByteArray → Int → Int → Option ((Bool) ⊕ (Unit))
  | 0, _, _, _ => none
  | n + 1, s, c, i =>
    if (decide ((i : Int) < ((s.size : Nat) : Int))) = true then
      if (0 : Int) ≤ i ∧ i < (((s).size : Nat) : Int) then
      if (((byteAt s i) : Int) == c) = true then
        some (.inl true)
      else
        f75_broughamref25_has_L2 n s c (IntKind.wrap .i64 (i + 1))
      else none
    else
      some (.inr ())
def f75_broughamref25_has_L2_k (w : (Bool) ⊕ (Unit)) (o : Out) : Prop := match w with
  | .inl e => o = f75_broughamref25_has_out e
  | .inr e => At Tryd.prog Tryd.f75 0 6 ⟨[], [], [], 0⟩ o
theorem f75_broughamref25_has_L2_ok (n : Nat) : ∀ (s : ByteArray) (c : Int) (i : Int) (w : (Bool) ⊕ (Unit)) (h : f75_broughamref25_has_L2 n s c i = some w) (o : Out) (hk : f75_broughamref25_has_L2_k w o), At Tryd.prog Tryd.f75 0 2 ⟨[(0, oc (.d (.str s))), (1, oc (.d (.int .u8 c))), (5, oc (zi i))], [], [], 0⟩ o := by
  induction n with
  | zero => intro s c i w h; rw [f75_broughamref25_has_L2] at h; cases h
  | succ n ih =>
    intro s c i w h o hk
    rw [f75_broughamref25_has_L2] at h
    rcases iteS h with ⟨b687_e0, h⟩ | ⟨b687_e0, h⟩
    · refine At.step hm ht ⟨[], [true], [], [0, 1, 5], []⟩ 4 ⟨[(0, oc (.d (.str s))), (1, oc (.d (.int .u8 c))), (5, oc (zi i))], [], [], 0⟩ [(decide ((i : Int) < ((s.size : Nat) : Int))) = true] (by kernel_rfl) ⟨b687_e0, trivial⟩ ?_
      obtain ⟨g688_0, h⟩ := ifS h
      rcases iteS h with ⟨b688_e0, h⟩ | ⟨b688_e0, h⟩
      · refine At.step hm ht ⟨[], [true], [], [], []⟩ 5 ⟨[], [], [], 0⟩ [(0 : Int) ≤ i ∧ i < (((s).size : Nat) : Int), (((byteAt s i) : Int) == c) = true] (by kernel_rfl) ⟨g688_0, b688_e0, trivial⟩ ?_
        have h := Option.some.inj h
        subst h
        have hk : o = f75_broughamref25_has_out true := hk
        subst hk
        exact At.fin hm ht ⟨[], [], [], [4], []⟩ [] (by kernel_rfl) trivial
      · refine At.step hm ht ⟨[], [false], [], [0, 1, 5], []⟩ 3 ⟨[(0, oc (.d (.str s))), (1, oc (.d (.int .u8 c))), (5, oc (zi i))], [], [], 0⟩ [(0 : Int) ≤ i ∧ i < (((s).size : Nat) : Int), (((byteAt s i) : Int) == c) = false] (by kernel_rfl) ⟨g688_0, b688_e0, trivial⟩ ?_
        refine At.step hm ht ⟨[], [], [], [0, 1, 5], []⟩ 2 ⟨[(0, oc (.d (.str s))), (1, oc (.d (.int .u8 c))), (5, oc (zi (IntKind.wrap .i64 (i + 1))))], [], [], 0⟩ [] (by kernel_rfl) trivial ?_
        exact ih s c (IntKind.wrap .i64 (i + 1)) w h o hk
    · refine At.step hm ht ⟨[], [false], [], [], []⟩ 6 ⟨[], [], [], 0⟩ [(decide ((i : Int) < ((s.size : Nat) : Int))) = false] (by kernel_rfl) ⟨b687_e0, trivial⟩ ?_
      have h := Option.some.inj h
      subst h
      exact hk
def f75_broughamref25_has (n : Nat) (s : ByteArray) (c : Int) : Option (Bool) :=
  (f75_broughamref25_has_L2 n s c 0).bind fun w691 =>
  match w691 with
  | .inl e692 =>
    some e692
  | .inr e693 =>
    some false
theorem f75_broughamref25_has_ok (n : Nat) (s : ByteArray) (c : Int) (r : Bool) (h : f75_broughamref25_has n s c = some r) : FnOK Tryd.prog 75 (f75_broughamref25_has_in s c) (f75_broughamref25_has_out r) := by
  unfold f75_broughamref25_has at h
  refine At.fn (r := 0) Tryd.func75 rfl (by kernel_rfl) rfl rfl (by kernel_rfl) ?_
  show At Tryd.prog Tryd.f75 0 0 ⟨[(0, oc (.d (.str s))), (1, oc (.d (.int .u8 c)))], [], [], 0⟩ _
  refine At.step hm ht ⟨[], [], [], [0, 1], []⟩ 1 ⟨[(0, oc (.d (.str s))), (1, oc (.d (.int .u8 c)))], [], [], 0⟩ [] (by kernel_rfl) trivial ?_
  refine At.step hm ht ⟨[], [], [], [0, 1, 5], []⟩ 2 ⟨[(0, oc (.d (.str s))), (1, oc (.d (.int .u8 c))), (5, oc (zi 0))], [], [], 0⟩ [] (by kernel_rfl) trivial ?_
  obtain ⟨w691, cw691, h⟩ := bindS h
  refine f75_broughamref25_has_L2_ok n s c 0 w691 cw691 _ ?_
  rcases w691 with e692 | e693
  · have h := Option.some.inj h
    subst h
    rfl
  · show At Tryd.prog Tryd.f75 0 6 ⟨[], [], [], 0⟩ _
    have h := Option.some.inj h
    subst h
    exact At.fin hm ht ⟨[], [], [], [4], []⟩ [] (by kernel_rfl) trivial
/-! brougham/broughamref25.Right -/
def f44_broughamref25_Right_in (s_0 : Int) (s_1 : Int) (s_2 : Int) (s_3 : Int) (s_4 : Int) (s_5 : Int) (s_6 : List Int) : Inn := ⟨[.agg [zi s_0, zi s_1, zi s_2, zi s_3, zi s_4, zi s_5, .d (.sl (.int .u8) s_6)]], [], [], 0⟩
def f44_broughamref25_Right_out (r : Bool) : Out := ⟨oc (.d (.bool r)), [], [], 0⟩
def f44_broughamref25_Right_L6 : Nat → ByteArray → ByteArray → Int → Int → Int → Int → Int → Int → Int → (List Int) → Option ((Bool) ⊕ (ByteArray × Int × Int × Int × Int × Int × Int × List Int))
  | 0, _, _, _, _, _, _, _, _, _, _ => none
  | n + 1, parts, all, i, s_0, s_1, s_2, s_3, s_4, s_5, s_6 =>
    if (decide ((i : Int) < 5)) = true then
      if (0 : Int) ≤ i ∧ i < (((all).size : Nat) : Int) then
      (f74_broughamref25_get s_0 s_1 s_2 s_3 s_4 s_5 s_6 (byteAt all i)).bind fun r671_1 =>
      if (decide ((r671_1 : Int) < 0)) = true then
        some (.inl false)
      else
        if (decide ((r671_1 : Int) > 2147483647)) = true then
          some (.inl false)
        else
          if ((r671_1 : Int) != 0) = true then
            if (0 : Int) ≤ i ∧ i < (((all).size : Nat) : Int) then
            (f75_broughamref25_has n parts (byteAt all i)).bind fun r682_1 =>
            if (!r682_1) = true then
              some (.inl false)
            else
              f44_broughamref25_Right_L6 n parts all (IntKind.wrap .i64 (i + 1)) s_0 s_1 s_2 s_3 s_4 s_5 s_6
            else none
          else
            f44_broughamref25_Right_L6 n parts all (IntKind.wrap .i64 (i + 1)) s_0 s_1 s_2 s_3 s_4 s_5 s_6
      else none
    else
      some (.inr ((parts, s_0, s_1, s_2, s_3, s_4, s_5, s_6)))
def f44_broughamref25_Right_L6_k (w : (Bool) ⊕ (ByteArray × Int × Int × Int × Int × Int × Int × List Int)) (o : Out) : Prop := match w with
  | .inl e => o = f44_broughamref25_Right_out e
  | .inr e => At Tryd.prog Tryd.f44 0 11 ⟨[(1, oc (.ptr 0 0)), (4, oc (.d (.str e.1)))], [], [(0, [zi e.2.1, zi e.2.2.1, zi e.2.2.2.1, zi e.2.2.2.2.1, zi e.2.2.2.2.2.1, zi e.2.2.2.2.2.2.1, .d (.sl (.int .u8) e.2.2.2.2.2.2.2)])], 1⟩ o
theorem f44_broughamref25_Right_L6_ok (n : Nat) : ∀ (parts : ByteArray) (all : ByteArray) (i : Int) (s_0 : Int) (s_1 : Int) (s_2 : Int) (s_3 : Int) (s_4 : Int) (s_5 : Int) (s_6 : List Int) (w : (Bool) ⊕ (ByteArray × Int × Int × Int × Int × Int × Int × List Int)) (h : f44_broughamref25_Right_L6 n parts all i s_0 s_1 s_2 s_3 s_4 s_5 s_6 = some w) (o : Out) (hk : f44_broughamref25_Right_L6_k w o), At Tryd.prog Tryd.f44 0 6 ⟨[(1, oc (.ptr 0 0)), (4, oc (.d (.str parts))), (5, oc (.d (.str all))), (6, oc (zi i))], [], [(0, [zi s_0, zi s_1, zi s_2, zi s_3, zi s_4, zi s_5, .d (.sl (.int .u8) s_6)])], 1⟩ o := by
  induction n with
  | zero => intro parts all i s_0 s_1 s_2 s_3 s_4 s_5 s_6 w h; rw [f44_broughamref25_Right_L6] at h; cases h
  | succ n ih =>
    intro parts all i s_0 s_1 s_2 s_3 s_4 s_5 s_6 w h o hk
    rw [f44_broughamref25_Right_L6] at h
    rcases iteS h with ⟨b670_e0, h⟩ | ⟨b670_e0, h⟩
    · refine At.step hm ht ⟨[], [true], [], [1, 4, 5, 6], [0]⟩ 8 ⟨[(1, oc (.ptr 0 0)), (4, oc (.d (.str parts))), (5, oc (.d (.str all))), (6, oc (zi i))], [], [(0, [zi s_0, zi s_1, zi s_2, zi s_3, zi s_4, zi s_5, .d (.sl (.int .u8) s_6)])], 1⟩ [(decide ((i : Int) < 5)) = true] (by kernel_rfl) ⟨b670_e0, trivial⟩ ?_
      obtain ⟨g671_0, h⟩ := ifS h
      obtain ⟨r671_1, cr671_1, h⟩ := bindS h
      refine At.step hm ht ⟨[(4, .call [] [] (f74_broughamref25_get_out r671_1))], [], [], [1, 4, 5, 6, 7], [0]⟩ 9 ⟨[(1, oc (.ptr 0 0)), (4, oc (.d (.str parts))), (5, oc (.d (.str all))), (6, oc (zi i)), (7, oc (zi r671_1))], [], [(0, [zi s_0, zi s_1, zi s_2, zi s_3, zi s_4, zi s_5, .d (.sl (.int .u8) s_6)])], 1⟩ [(0 : Int) ≤ i ∧ i < (((all).size : Nat) : Int), FnOK Tryd.prog 74 (f74_broughamref25_get_in s_0 s_1 s_2 s_3 s_4 s_5 s_6 (byteAt all i)) (f74_broughamref25_get_out r671_1)] (by kernel_rfl) ⟨g671_0, (f74_broughamref25_get_ok s_0 s_1 s_2 s_3 s_4 s_5 s_6 (byteAt all i) r671_1 cr671_1), trivial⟩ ?_
      rcases iteS h with ⟨b682_2, h⟩ | ⟨b682_2, h⟩
      · refine At.step hm ht ⟨[(2, .b true)], [true], [], [], []⟩ 10 ⟨[], [], [], 0⟩ [(decide ((r671_1 : Int) < 0)) = true, true = true] (by kernel_rfl) ⟨b682_2, rfl, trivial⟩ ?_
        have h := Option.some.inj h
        subst h
        have hk : o = f44_broughamref25_Right_out false := hk
        subst hk
        exact At.fin hm ht ⟨[], [], [], [2], []⟩ [] (by kernel_rfl) trivial
      · rcases iteS h with ⟨b682_6, h⟩ | ⟨b682_6, h⟩
        · refine At.step hm ht ⟨[(2, .b false), (6, .b true)], [true], [], [], []⟩ 10 ⟨[], [], [], 0⟩ [(decide ((r671_1 : Int) < 0)) = false, (decide ((r671_1 : Int) > 2147483647)) = true, true = true] (by kernel_rfl) ⟨b682_2, b682_6, rfl, trivial⟩ ?_
          have h := Option.some.inj h
          subst h
          have hk : o = f44_broughamref25_Right_out false := hk
          subst hk
          exact At.fin hm ht ⟨[], [], [], [2], []⟩ [] (by kernel_rfl) trivial
        · rcases iteS h with ⟨b682_9, h⟩ | ⟨b682_9, h⟩
          · obtain ⟨g682_0, h⟩ := ifS h
            obtain ⟨r682_1, cr682_1, h⟩ := bindS h
            rcases iteS h with ⟨b682_e0, h⟩ | ⟨b682_e0, h⟩
            · refine At.step hm ht ⟨[(2, .b false), (6, .b false), (9, .b true), (14, .call [] [] (f75_broughamref25_has_out r682_1))], [true], [], [], []⟩ 10 ⟨[], [], [], 0⟩ [(decide ((r671_1 : Int) < 0)) = false, (decide ((r671_1 : Int) > 2147483647)) = false, ((r671_1 : Int) != 0) = true, (0 : Int) ≤ i ∧ i < (((all).size : Nat) : Int), FnOK Tryd.prog 75 (f75_broughamref25_has_in parts (byteAt all i)) (f75_broughamref25_has_out r682_1), (!r682_1) = true] (by kernel_rfl) ⟨b682_2, b682_6, b682_9, g682_0, (f75_broughamref25_has_ok n parts (byteAt all i) r682_1 cr682_1), b682_e0, trivial⟩ ?_
              have h := Option.some.inj h
              subst h
              have hk : o = f44_broughamref25_Right_out false := hk
              subst hk
              exact At.fin hm ht ⟨[], [], [], [2], []⟩ [] (by kernel_rfl) trivial
            · refine At.step hm ht ⟨[(2, .b false), (6, .b false), (9, .b true), (14, .call [] [] (f75_broughamref25_has_out r682_1))], [false], [], [1, 4, 5, 6], [0]⟩ 7 ⟨[(1, oc (.ptr 0 0)), (4, oc (.d (.str parts))), (5, oc (.d (.str all))), (6, oc (zi i))], [], [(0, [zi s_0, zi s_1, zi s_2, zi s_3, zi s_4, zi s_5, .d (.sl (.int .u8) s_6)])], 1⟩ [(decide ((r671_1 : Int) < 0)) = false, (decide ((r671_1 : Int) > 2147483647)) = false, ((r671_1 : Int) != 0) = true, (0 : Int) ≤ i ∧ i < (((all).size : Nat) : Int), FnOK Tryd.prog 75 (f75_broughamref25_has_in parts (byteAt all i)) (f75_broughamref25_has_out r682_1), (!r682_1) = false] (by kernel_rfl) ⟨b682_2, b682_6, b682_9, g682_0, (f75_broughamref25_has_ok n parts (byteAt all i) r682_1 cr682_1), b682_e0, trivial⟩ ?_
              refine At.step hm ht ⟨[], [], [], [1, 4, 5, 6], [0]⟩ 6 ⟨[(1, oc (.ptr 0 0)), (4, oc (.d (.str parts))), (5, oc (.d (.str all))), (6, oc (zi (IntKind.wrap .i64 (i + 1))))], [], [(0, [zi s_0, zi s_1, zi s_2, zi s_3, zi s_4, zi s_5, .d (.sl (.int .u8) s_6)])], 1⟩ [] (by kernel_rfl) trivial ?_
              exact ih parts all (IntKind.wrap .i64 (i + 1)) s_0 s_1 s_2 s_3 s_4 s_5 s_6 w h o hk
          · refine At.step hm ht ⟨[(2, .b false), (6, .b false), (9, .b false)], [false], [], [1, 4, 5, 6], [0]⟩ 7 ⟨[(1, oc (.ptr 0 0)), (4, oc (.d (.str parts))), (5, oc (.d (.str all))), (6, oc (zi i))], [], [(0, [zi s_0, zi s_1, zi s_2, zi s_3, zi s_4, zi s_5, .d (.sl (.int .u8) s_6)])], 1⟩ [(decide ((r671_1 : Int) < 0)) = false, (decide ((r671_1 : Int) > 2147483647)) = false, ((r671_1 : Int) != 0) = false, false = false] (by kernel_rfl) ⟨b682_2, b682_6, b682_9, rfl, trivial⟩ ?_
            refine At.step hm ht ⟨[], [], [], [1, 4, 5, 6], [0]⟩ 6 ⟨[(1, oc (.ptr 0 0)), (4, oc (.d (.str parts))), (5, oc (.d (.str all))), (6, oc (zi (IntKind.wrap .i64 (i + 1))))], [], [(0, [zi s_0, zi s_1, zi s_2, zi s_3, zi s_4, zi s_5, .d (.sl (.int .u8) s_6)])], 1⟩ [] (by kernel_rfl) trivial ?_
            exact ih parts all (IntKind.wrap .i64 (i + 1)) s_0 s_1 s_2 s_3 s_4 s_5 s_6 w h o hk
    · refine At.step hm ht ⟨[], [false], [], [1, 4], [0]⟩ 11 ⟨[(1, oc (.ptr 0 0)), (4, oc (.d (.str parts)))], [], [(0, [zi s_0, zi s_1, zi s_2, zi s_3, zi s_4, zi s_5, .d (.sl (.int .u8) s_6)])], 1⟩ [(decide ((i : Int) < 5)) = false] (by kernel_rfl) ⟨b670_e0, trivial⟩ ?_
      have h := Option.some.inj h
      subst h
      exact hk
def f44_broughamref25_Right (n : Nat) (s_0 : Int) (s_1 : Int) (s_2 : Int) (s_3 : Int) (s_4 : Int) (s_5 : Int) (s_6 : List Int) : Option (Bool) :=
  (f73_broughamref25_word s_0).bind fun r665_0 =>
  if (r665_0.1.toList == (⟨#[]⟩ : ByteArray).toList) = true then
    some false
  else
    (f44_broughamref25_Right_L6 n r665_0.2 (⟨#[104, 110, 112, 119, 107]⟩ : ByteArray) 0 s_0 s_1 s_2 s_3 s_4 s_5 s_6).bind fun w698 =>
    match w698 with
    | .inl e699 =>
      some e699
    | .inr e700 =>
      if ((((e700.2.2.2.2.2.2.2.length : Nat) : Int) : Int) == 0) = true then
        some true
      else
        (f75_broughamref25_has n e700.1 98).bind fun r701_0 =>
        some r701_0
theorem f44_broughamref25_Right_ok (n : Nat) (s_0 : Int) (s_1 : Int) (s_2 : Int) (s_3 : Int) (s_4 : Int) (s_5 : Int) (s_6 : List Int) (r : Bool) (h : f44_broughamref25_Right n s_0 s_1 s_2 s_3 s_4 s_5 s_6 = some r) : FnOK Tryd.prog 44 (f44_broughamref25_Right_in s_0 s_1 s_2 s_3 s_4 s_5 s_6) (f44_broughamref25_Right_out r) := by
  unfold f44_broughamref25_Right at h
  refine At.fn (r := 0) Tryd.func44 rfl (by kernel_rfl) rfl rfl (by kernel_rfl) ?_
  show At Tryd.prog Tryd.f44 0 0 ⟨[(0, .one (.agg [zi s_0, zi s_1, zi s_2, zi s_3, zi s_4, zi s_5, .d (.sl (.int .u8) s_6)]))], [], [], 0⟩ _
  refine At.step hm ht ⟨[], [], [], [1], [0]⟩ 1 ⟨[(1, oc (.ptr 0 0))], [], [(0, [zi s_0, zi s_1, zi s_2, zi s_3, zi s_4, zi s_5, .d (.sl (.int .u8) s_6)])], 1⟩ [] (by kernel_rfl) trivial ?_
  obtain ⟨r665_0, cr665_0, h⟩ := bindS h
  refine At.step hm ht ⟨[(2, .call [] [] (f73_broughamref25_word_out r665_0))], [], [], [1, 3, 4], [0]⟩ 2 ⟨[(1, oc (.ptr 0 0)), (3, oc (.d (.str r665_0.1))), (4, oc (.d (.str r665_0.2)))], [], [(0, [zi s_0, zi s_1, zi s_2, zi s_3, zi s_4, zi s_5, .d (.sl (.int .u8) s_6)])], 1⟩ [FnOK Tryd.prog 73 (f73_broughamref25_word_in s_0) (f73_broughamref25_word_out r665_0)] (by kernel_rfl) ⟨(f73_broughamref25_word_ok s_0 r665_0 cr665_0), trivial⟩ ?_
  rcases iteS h with ⟨b666_e0, h⟩ | ⟨b666_e0, h⟩
  · refine At.step hm ht ⟨[], [true], [], [], []⟩ 3 ⟨[], [], [], 0⟩ [(r665_0.1.toList == (⟨#[]⟩ : ByteArray).toList) = true] (by kernel_rfl) ⟨b666_e0, trivial⟩ ?_
    have h := Option.some.inj h
    subst h
    exact At.fin hm ht ⟨[], [], [], [2], []⟩ [] (by kernel_rfl) trivial
  · refine At.step hm ht ⟨[], [false], [], [1, 4], [0]⟩ 4 ⟨[(1, oc (.ptr 0 0)), (4, oc (.d (.str r665_0.2)))], [], [(0, [zi s_0, zi s_1, zi s_2, zi s_3, zi s_4, zi s_5, .d (.sl (.int .u8) s_6)])], 1⟩ [(r665_0.1.toList == (⟨#[]⟩ : ByteArray).toList) = false] (by kernel_rfl) ⟨b666_e0, trivial⟩ ?_
    refine At.step hm ht ⟨[], [], [], [1, 4, 5], [0]⟩ 5 ⟨[(1, oc (.ptr 0 0)), (4, oc (.d (.str r665_0.2))), (5, oc (.d (.str (⟨#[104, 110, 112, 119, 107]⟩ : ByteArray))))], [], [(0, [zi s_0, zi s_1, zi s_2, zi s_3, zi s_4, zi s_5, .d (.sl (.int .u8) s_6)])], 1⟩ [] (by kernel_rfl) trivial ?_
    refine At.step hm ht ⟨[], [], [], [1, 4, 5, 6], [0]⟩ 6 ⟨[(1, oc (.ptr 0 0)), (4, oc (.d (.str r665_0.2))), (5, oc (.d (.str (⟨#[104, 110, 112, 119, 107]⟩ : ByteArray)))), (6, oc (zi 0))], [], [(0, [zi s_0, zi s_1, zi s_2, zi s_3, zi s_4, zi s_5, .d (.sl (.int .u8) s_6)])], 1⟩ [] (by kernel_rfl) trivial ?_
    obtain ⟨w698, cw698, h⟩ := bindS h
    refine f44_broughamref25_Right_L6_ok n r665_0.2 (⟨#[104, 110, 112, 119, 107]⟩ : ByteArray) 0 s_0 s_1 s_2 s_3 s_4 s_5 s_6 w698 cw698 _ ?_
    rcases w698 with e699 | e700
    · have h := Option.some.inj h
      subst h
      rfl
    · show At Tryd.prog Tryd.f44 0 11 ⟨[(1, oc (.ptr 0 0)), (4, oc (.d (.str e700.1)))], [], [(0, [zi e700.2.1, zi e700.2.2.1, zi e700.2.2.2.1, zi e700.2.2.2.2.1, zi e700.2.2.2.2.2.1, zi e700.2.2.2.2.2.2.1, .d (.sl (.int .u8) e700.2.2.2.2.2.2.2)])], 1⟩ _
      rcases iteS h with ⟨b701_4, h⟩ | ⟨b701_4, h⟩
      · have h := Option.some.inj h
        subst h
        exact At.fin hm ht ⟨[(4, .b true)], [], [], [2], []⟩ [((((e700.2.2.2.2.2.2.2.length : Nat) : Int) : Int) == 0) = true] (by kernel_rfl) ⟨b701_4, trivial⟩
      · obtain ⟨r701_0, cr701_0, h⟩ := bindS h
        have h := Option.some.inj h
        subst h
        exact At.fin hm ht ⟨[(4, .b false), (6, .call [] [] (f75_broughamref25_has_out r701_0))], [], [], [2], []⟩ [((((e700.2.2.2.2.2.2.2.length : Nat) : Int) : Int) == 0) = false, FnOK Tryd.prog 75 (f75_broughamref25_has_in e700.1 98) (f75_broughamref25_has_out r701_0)] (by kernel_rfl) ⟨b701_4, (f75_broughamref25_has_ok n e700.1 98 r701_0 cr701_0), trivial⟩
/-! brougham/broughamref01.Hex -/
def f91_broughamref01_Hex_in (b : List Int) : Inn := ⟨[.c (.d (.sl (.int .u8) b))], [], [], 0⟩
def f91_broughamref01_Hex_out (r : ByteArray) : Out := ⟨oc (.d (.str r)), [], [], 0⟩
def f91_broughamref01_Hex_L5 : Nat → (List Int) → (List Int) → Int → Option (List Int)
  | 0, _, _, _ => none
  | n + 1, b, s, i =>
    if (decide ((i : Int) < ((b.length : Nat) : Int))) = true then
      if (0 : Int) ≤ i ∧ i < (((b).length : Nat) : Int) then
      if (0 : Int) ≤ (IntKind.wrap .u8 (Int.tdiv (b.getD i.toNat 0) 16)) ∧ (IntKind.wrap .u8 (Int.tdiv (b.getD i.toNat 0) 16)) < ((((⟨#[48, 49, 50, 51, 52, 53, 54, 55, 56, 57, 97, 98, 99, 100, 101, 102]⟩ : ByteArray)).size : Nat) : Int) then
      if (0 : Int) ≤ i ∧ i < (((b).length : Nat) : Int) then
      if (0 : Int) ≤ (Int.tmod (b.getD i.toNat 0) 16) ∧ (Int.tmod (b.getD i.toNat 0) 16) < ((((⟨#[48, 49, 50, 51, 52, 53, 54, 55, 56, 57, 97, 98, 99, 100, 101, 102]⟩ : ByteArray)).size : Nat) : Int) then
      if s.length + [(byteAt (⟨#[48, 49, 50, 51, 52, 53, 54, 55, 56, 57, 97, 98, 99, 100, 101, 102]⟩ : ByteArray) (IntKind.wrap .u8 (Int.tdiv (b.getD i.toNat 0) 16))), (byteAt (⟨#[48, 49, 50, 51, 52, 53, 54, 55, 56, 57, 97, 98, 99, 100, 101, 102]⟩ : ByteArray) (Int.tmod (b.getD i.toNat 0) 16))].length ≤ maxLen ∧ (s.length + [(byteAt (⟨#[48, 49, 50, 51, 52, 53, 54, 55, 56, 57, 97, 98, 99, 100, 101, 102]⟩ : ByteArray) (IntKind.wrap .u8 (Int.tdiv (b.getD i.toNat 0) 16))), (byteAt (⟨#[48, 49, 50, 51, 52, 53, 54, 55, 56, 57, 97, 98, 99, 100, 101, 102]⟩ : ByteArray) (Int.tmod (b.getD i.toNat 0) 16))].length) * 1 ≤ 140737488355328 then
      f91_broughamref01_Hex_L5 n b (s ++ [(byteAt (⟨#[48, 49, 50, 51, 52, 53, 54, 55, 56, 57, 97, 98, 99, 100, 101, 102]⟩ : ByteArray) (IntKind.wrap .u8 (Int.tdiv (b.getD i.toNat 0) 16))), (byteAt (⟨#[48, 49, 50, 51, 52, 53, 54, 55, 56, 57, 97, 98, 99, 100, 101, 102]⟩ : ByteArray) (Int.tmod (b.getD i.toNat 0) 16))]) (IntKind.wrap .i64 (i + 1))
      else none
      else none
      else none
      else none
      else none
    else
      some (s)
def f91_broughamref01_Hex_L5_k (e : List Int) (o : Out) : Prop := At Tryd.prog Tryd.f91 0 8 ⟨[(3, oc (.own 0 (.int .u8) e))], [(0, some ⟨5, 0⟩)], [], 1⟩ o
theorem f91_broughamref01_Hex_L5_ok (n : Nat) : ∀ (b : List Int) (s : List Int) (i : Int) (w : List Int) (h : f91_broughamref01_Hex_L5 n b s i = some w) (o : Out) (hk : f91_broughamref01_Hex_L5_k w o), At Tryd.prog Tryd.f91 0 5 ⟨[(0, oc (.d (.sl (.int .u8) b))), (3, oc (.own 0 (.int .u8) s)), (4, oc (zi i))], [(0, some ⟨5, 0⟩)], [], 1⟩ o := by
  induction n with
  | zero => intro b s i w h; rw [f91_broughamref01_Hex_L5] at h; cases h
  | succ n ih =>
    intro b s i w h o hk
    rw [f91_broughamref01_Hex_L5] at h
    rcases iteS h with ⟨b723_e0, h⟩ | ⟨b723_e0, h⟩
    · refine At.step hm ht ⟨[], [true], [], [0, 3, 4], [0]⟩ 7 ⟨[(0, oc (.d (.sl (.int .u8) b))), (3, oc (.own 0 (.int .u8) s)), (4, oc (zi i))], [(0, some ⟨5, 0⟩)], [], 1⟩ [(decide ((i : Int) < ((b.length : Nat) : Int))) = true] (by kernel_rfl) ⟨b723_e0, trivial⟩ ?_
      obtain ⟨g724_0, h⟩ := ifS h
      obtain ⟨g724_1, h⟩ := ifS h
      obtain ⟨g724_2, h⟩ := ifS h
      obtain ⟨g724_3, h⟩ := ifS h
      obtain ⟨g724_4, h⟩ := ifS h
      refine At.step hm ht ⟨[], [], [], [0, 3, 4], [15]⟩ 6 ⟨[(0, oc (.d (.sl (.int .u8) b))), (3, oc (.own 0 (.int .u8) (s ++ [(byteAt (⟨#[48, 49, 50, 51, 52, 53, 54, 55, 56, 57, 97, 98, 99, 100, 101, 102]⟩ : ByteArray) (IntKind.wrap .u8 (Int.tdiv (b.getD i.toNat 0) 16))), (byteAt (⟨#[48, 49, 50, 51, 52, 53, 54, 55, 56, 57, 97, 98, 99, 100, 101, 102]⟩ : ByteArray) (Int.tmod (b.getD i.toNat 0) 16))]))), (4, oc (zi i))], [(0, some ⟨5, 0⟩)], [], 1⟩ [(0 : Int) ≤ i ∧ i < (((b).length : Nat) : Int), (16 : Int) ≠ 0, (0 : Int) ≤ (IntKind.wrap .u8 (Int.tdiv (b.getD i.toNat 0) 16)) ∧ (IntKind.wrap .u8 (Int.tdiv (b.getD i.toNat 0) 16)) < ((((⟨#[48, 49, 50, 51, 52, 53, 54, 55, 56, 57, 97, 98, 99, 100, 101, 102]⟩ : ByteArray)).size : Nat) : Int), (0 : Int) ≤ i ∧ i < (((b).length : Nat) : Int), (16 : Int) ≠ 0, (0 : Int) ≤ (Int.tmod (b.getD i.toNat 0) 16) ∧ (Int.tmod (b.getD i.toNat 0) 16) < ((((⟨#[48, 49, 50, 51, 52, 53, 54, 55, 56, 57, 97, 98, 99, 100, 101, 102]⟩ : ByteArray)).size : Nat) : Int), s.length + [(byteAt (⟨#[48, 49, 50, 51, 52, 53, 54, 55, 56, 57, 97, 98, 99, 100, 101, 102]⟩ : ByteArray) (IntKind.wrap .u8 (Int.tdiv (b.getD i.toNat 0) 16))), (byteAt (⟨#[48, 49, 50, 51, 52, 53, 54, 55, 56, 57, 97, 98, 99, 100, 101, 102]⟩ : ByteArray) (Int.tmod (b.getD i.toNat 0) 16))].length ≤ maxLen ∧ (s.length + [(byteAt (⟨#[48, 49, 50, 51, 52, 53, 54, 55, 56, 57, 97, 98, 99, 100, 101, 102]⟩ : ByteArray) (IntKind.wrap .u8 (Int.tdiv (b.getD i.toNat 0) 16))), (byteAt (⟨#[48, 49, 50, 51, 52, 53, 54, 55, 56, 57, 97, 98, 99, 100, 101, 102]⟩ : ByteArray) (Int.tmod (b.getD i.toNat 0) 16))].length) * 1 ≤ 140737488355328] (by kernel_rfl) ⟨g724_0, (by decide), g724_1, g724_2, (by decide), g724_3, g724_4, trivial⟩ ?_
      refine At.step hm ht ⟨[], [], [], [0, 3, 4], [0]⟩ 5 ⟨[(0, oc (.d (.sl (.int .u8) b))), (3, oc (.own 0 (.int .u8) (s ++ [(byteAt (⟨#[48, 49, 50, 51, 52, 53, 54, 55, 56, 57, 97, 98, 99, 100, 101, 102]⟩ : ByteArray) (IntKind.wrap .u8 (Int.tdiv (b.getD i.toNat 0) 16))), (byteAt (⟨#[48, 49, 50, 51, 52, 53, 54, 55, 56, 57, 97, 98, 99, 100, 101, 102]⟩ : ByteArray) (Int.tmod (b.getD i.toNat 0) 16))]))), (4, oc (zi (IntKind.wrap .i64 (i + 1))))], [(0, some ⟨5, 0⟩)], [], 1⟩ [] (by kernel_rfl) trivial ?_
      exact ih b (s ++ [(byteAt (⟨#[48, 49, 50, 51, 52, 53, 54, 55, 56, 57, 97, 98, 99, 100, 101, 102]⟩ : ByteArray) (IntKind.wrap .u8 (Int.tdiv (b.getD i.toNat 0) 16))), (byteAt (⟨#[48, 49, 50, 51, 52, 53, 54, 55, 56, 57, 97, 98, 99, 100, 101, 102]⟩ : ByteArray) (Int.tmod (b.getD i.toNat 0) 16))]) (IntKind.wrap .i64 (i + 1)) w h o hk
    · refine At.step hm ht ⟨[], [false], [], [3], [0]⟩ 8 ⟨[(3, oc (.own 0 (.int .u8) s))], [(0, some ⟨5, 0⟩)], [], 1⟩ [(decide ((i : Int) < ((b.length : Nat) : Int))) = false] (by kernel_rfl) ⟨b723_e0, trivial⟩ ?_
      have h := Option.some.inj h
      subst h
      exact hk
def f91_broughamref01_Hex (n : Nat) (b : List Int) : Option (ByteArray) :=
  if ((((b.length : Nat) : Int) : Int) == 0) = true then
    some (⟨#[45]⟩ : ByteArray)
  else
    (f91_broughamref01_Hex_L5 n b [] 0).bind fun w726 =>
    some (strOfNums w726)
theorem f91_broughamref01_Hex_ok (n : Nat) (b : List Int) (r : ByteArray) (h : f91_broughamref01_Hex n b = some r) : FnOK Tryd.prog 91 (f91_broughamref01_Hex_in b) (f91_broughamref01_Hex_out r) := by
  unfold f91_broughamref01_Hex at h
  refine At.fn (r := 0) Tryd.func91 rfl (by kernel_rfl) rfl rfl (by kernel_rfl) ?_
  show At Tryd.prog Tryd.f91 0 0 ⟨[(0, oc (.d (.sl (.int .u8) b)))], [], [], 0⟩ _
  refine At.step hm ht ⟨[], [], [], [0], []⟩ 1 ⟨[(0, oc (.d (.sl (.int .u8) b)))], [], [], 0⟩ [] (by kernel_rfl) trivial ?_
  rcases iteS h with ⟨b719_e0, h⟩ | ⟨b719_e0, h⟩
  · refine At.step hm ht ⟨[], [true], [], [], []⟩ 2 ⟨[], [], [], 0⟩ [((((b.length : Nat) : Int) : Int) == 0) = true] (by kernel_rfl) ⟨b719_e0, trivial⟩ ?_
    have h := Option.some.inj h
    subst h
    exact At.fin hm ht ⟨[], [], [], [2], []⟩ [] (by kernel_rfl) trivial
  · refine At.step hm ht ⟨[], [false], [], [0], []⟩ 3 ⟨[(0, oc (.d (.sl (.int .u8) b)))], [], [], 0⟩ [((((b.length : Nat) : Int) : Int) == 0) = false] (by kernel_rfl) ⟨b719_e0, trivial⟩ ?_
    refine At.step hm ht ⟨[], [], [], [0, 3], []⟩ 4 ⟨[(0, oc (.d (.sl (.int .u8) b))), (3, oc (.d (.sl .unit [])))], [], [], 0⟩ [] (by kernel_rfl) trivial ?_
    refine At.step hm ht ⟨[], [], [.nil false 3 0 (.int .u8) (some 5)], [0, 3, 4], [1]⟩ 5 ⟨[(0, oc (.d (.sl (.int .u8) b))), (3, oc (.own 0 (.int .u8) [])), (4, oc (zi 0))], [(0, some ⟨5, 0⟩)], [], 1⟩ [] (by kernel_rfl) trivial ?_
    obtain ⟨w726, cw726, h⟩ := bindS h
    refine f91_broughamref01_Hex_L5_ok n b [] 0 w726 cw726 _ ?_
    show At Tryd.prog Tryd.f91 0 8 ⟨[(3, oc (.own 0 (.int .u8) w726))], [(0, some ⟨5, 0⟩)], [], 1⟩ _
    have h := Option.some.inj h
    subst h
    exact At.fin hm ht ⟨[], [], [], [2], []⟩ [] (by kernel_rfl) trivial
/-! brougham/broughamref01.Text -/
def f62_broughamref01_Text_in (n_ : Int) : Inn := ⟨[.c (zi n_)], [], [], 0⟩
def f62_broughamref01_Text_out (r : ByteArray) : Out := ⟨oc (.d (.str r)), [], [], 0⟩
def f62_broughamref01_Text : Nat → Int → Option (ByteArray)
  | 0, _ => none
  | n + 1, n_ =>
    if (decide ((n_ : Int) < 10)) = true then
      if (decide ((n_ : Int) < 0)) = true then
        if cutOk (⟨#[48, 49, 50, 51, 52, 53, 54, 55, 56, 57]⟩ : ByteArray).size (some 0) (some (IntKind.wrap .i64 (0 + 1))) none then
        some ((⟨#[48, 49, 50, 51, 52, 53, 54, 55, 56, 57]⟩ : ByteArray).extract 0 (IntKind.wrap .i64 (0 + 1)).toNat)
        else none
      else
        if cutOk (⟨#[48, 49, 50, 51, 52, 53, 54, 55, 56, 57]⟩ : ByteArray).size (some n_) (some (IntKind.wrap .i64 (n_ + 1))) none then
        some ((⟨#[48, 49, 50, 51, 52, 53, 54, 55, 56, 57]⟩ : ByteArray).extract n_.toNat (IntKind.wrap .i64 (n_ + 1)).toNat)
        else none
    else
      (f62_broughamref01_Text n (IntKind.wrap .i64 (Int.tdiv n_ 10))).bind fun r737_0 =>
      if cutOk (⟨#[48, 49, 50, 51, 52, 53, 54, 55, 56, 57]⟩ : ByteArray).size (some (Int.tmod n_ 10)) (some (IntKind.wrap .i64 ((Int.tmod n_ 10) + 1))) none then
      if r737_0.size + ((⟨#[48, 49, 50, 51, 52, 53, 54, 55, 56, 57]⟩ : ByteArray).extract (Int.tmod n_ 10).toNat (IntKind.wrap .i64 ((Int.tmod n_ 10) + 1)).toNat).size ≤ 9223372036854775807 then
      some (r737_0 ++ ((⟨#[48, 49, 50, 51, 52, 53, 54, 55, 56, 57]⟩ : ByteArray).extract (Int.tmod n_ 10).toNat (IntKind.wrap .i64 ((Int.tmod n_ 10) + 1)).toNat))
      else none
      else none
theorem f62_broughamref01_Text_ok (n : Nat) : ∀ (n_ : Int) (r : ByteArray) (h : f62_broughamref01_Text n n_ = some r), FnOK Tryd.prog 62 (f62_broughamref01_Text_in n_) (f62_broughamref01_Text_out r) := by
  induction n with
  | zero => intro n_ r h; rw [f62_broughamref01_Text] at h; cases h
  | succ n ih =>
    intro n_ r h
    rw [f62_broughamref01_Text] at h
    refine At.fn (r := 0) Tryd.func62 rfl (by kernel_rfl) rfl rfl (by kernel_rfl) ?_
    show At Tryd.prog Tryd.f62 0 0 ⟨[(0, oc (zi n_))], [], [], 0⟩ _
    refine At.step hm ht ⟨[], [], [], [0], []⟩ 1 ⟨[(0, oc (zi n_))], [], [], 0⟩ [] (by kernel_rfl) trivial ?_
    rcases iteS h with ⟨b732_e0, h⟩ | ⟨b732_e0, h⟩
    · refine At.step hm ht ⟨[], [true], [], [0], []⟩ 2 ⟨[(0, oc (zi n_))], [], [], 0⟩ [(decide ((n_ : Int) < 10)) = true] (by kernel_rfl) ⟨b732_e0, trivial⟩ ?_
      rcases iteS h with ⟨b733_e0, h⟩ | ⟨b733_e0, h⟩
      · refine At.step hm ht ⟨[], [true], [], [], []⟩ 3 ⟨[], [], [], 0⟩ [(decide ((n_ : Int) < 0)) = true] (by kernel_rfl) ⟨b733_e0, trivial⟩ ?_
        refine At.step hm ht ⟨[], [], [], [0], []⟩ 4 ⟨[(0, oc (zi 0))], [], [], 0⟩ [] (by kernel_rfl) trivial ?_
        obtain ⟨g735_0, h⟩ := ifS h
        have h := Option.some.inj h
        subst h
        exact At.fin hm ht ⟨[], [], [], [2], []⟩ [cutOk (⟨#[48, 49, 50, 51, 52, 53, 54, 55, 56, 57]⟩ : ByteArray).size (some 0) (some (IntKind.wrap .i64 (0 + 1))) none] (by kernel_rfl) ⟨g735_0, trivial⟩
      · refine At.step hm ht ⟨[], [false], [], [0], []⟩ 4 ⟨[(0, oc (zi n_))], [], [], 0⟩ [(decide ((n_ : Int) < 0)) = false] (by kernel_rfl) ⟨b733_e0, trivial⟩ ?_
        obtain ⟨g736_0, h⟩ := ifS h
        have h := Option.some.inj h
        subst h
        exact At.fin hm ht ⟨[], [], [], [2], []⟩ [cutOk (⟨#[48, 49, 50, 51, 52, 53, 54, 55, 56, 57]⟩ : ByteArray).size (some n_) (some (IntKind.wrap .i64 (n_ + 1))) none] (by kernel_rfl) ⟨g736_0, trivial⟩
    · refine At.step hm ht ⟨[], [false], [], [0], []⟩ 5 ⟨[(0, oc (zi n_))], [], [], 0⟩ [(decide ((n_ : Int) < 10)) = false] (by kernel_rfl) ⟨b732_e0, trivial⟩ ?_
      obtain ⟨r737_0, cr737_0, h⟩ := bindS h
      obtain ⟨g737_1, h⟩ := ifS h
      obtain ⟨g737_2, h⟩ := ifS h
      have h := Option.some.inj h
      subst h
      exact At.fin hm ht ⟨[(2, .call [] [] (f62_broughamref01_Text_out r737_0))], [], [], [2], []⟩ [(10 : Int) ≠ 0, FnOK Tryd.prog 62 (f62_broughamref01_Text_in (IntKind.wrap .i64 (Int.tdiv n_ 10))) (f62_broughamref01_Text_out r737_0), (10 : Int) ≠ 0, (10 : Int) ≠ 0, cutOk (⟨#[48, 49, 50, 51, 52, 53, 54, 55, 56, 57]⟩ : ByteArray).size (some (Int.tmod n_ 10)) (some (IntKind.wrap .i64 ((Int.tmod n_ 10) + 1))) none, r737_0.size + ((⟨#[48, 49, 50, 51, 52, 53, 54, 55, 56, 57]⟩ : ByteArray).extract (Int.tmod n_ 10).toNat (IntKind.wrap .i64 ((Int.tmod n_ 10) + 1)).toNat).size ≤ 9223372036854775807] (by kernel_rfl) ⟨(by decide), (ih (IntKind.wrap .i64 (Int.tdiv n_ 10)) r737_0 cr737_0), (by decide), (by decide), g737_1, g737_2, trivial⟩
/-! brougham/broughamref25.Line -/
def f69_broughamref25_Line_in (s_0 : Int) (s_1 : Int) (s_2 : Int) (s_3 : Int) (s_4 : Int) (s_5 : Int) (s_6 : List Int) : Inn := ⟨[.agg [zi s_0, zi s_1, zi s_2, zi s_3, zi s_4, zi s_5, .d (.sl (.int .u8) s_6)]], [], [], 0⟩
def f69_broughamref25_Line_out (r : ByteArray) : Out := ⟨oc (.d (.str r)), [], [], 0⟩
def f69_broughamref25_Line_L3 : Nat → ByteArray → ByteArray → Int → Int → Int → Int → Int → Int → Int → (List Int) → Option (ByteArray)
  | 0, _, _, _, _, _, _, _, _, _, _ => none
  | n + 1, w_, parts, i, s_0, s_1, s_2, s_3, s_4, s_5, s_6 =>
    if (decide ((i : Int) < ((parts.size : Nat) : Int))) = true then
      if (0 : Int) ≤ i ∧ i < (((parts).size : Nat) : Int) then
      if (((byteAt parts i) : Int) == 98) = true then
        (f91_broughamref01_Hex n s_6).bind fun r709_0 =>
        if (⟨#[32]⟩ : ByteArray).size + r709_0.size ≤ 9223372036854775807 then
        if w_.size + ((⟨#[32]⟩ : ByteArray) ++ r709_0).size ≤ 9223372036854775807 then
        f69_broughamref25_Line_L3 n (w_ ++ ((⟨#[32]⟩ : ByteArray) ++ r709_0)) parts (IntKind.wrap .i64 (i + 1)) s_0 s_1 s_2 s_3 s_4 s_5 s_6
        else none
        else none
      else
        if (0 : Int) ≤ i ∧ i < (((parts).size : Nat) : Int) then
        (f74_broughamref25_get s_0 s_1 s_2 s_3 s_4 s_5 s_6 (byteAt parts i)).bind fun r730_1 =>
        (f62_broughamref01_Text n r730_1).bind fun r730_2 =>
        if (⟨#[32]⟩ : ByteArray).size + r730_2.size ≤ 9223372036854775807 then
        if w_.size + ((⟨#[32]⟩ : ByteArray) ++ r730_2).size ≤ 9223372036854775807 then
        f69_broughamref25_Line_L3 n (w_ ++ ((⟨#[32]⟩ : ByteArray) ++ r730_2)) parts (IntKind.wrap .i64 (i + 1)) s_0 s_1 s_2 s_3 s_4 s_5 s_6
        else none
        else none
        else none
      else none
    else
      some (w_)
def f69_broughamref25_Line_L3_k (e : ByteArray) (o : Out) : Prop := At Tryd.prog Tryd.f69 0 8 ⟨[(3, oc (.d (.str e)))], [], [], 0⟩ o
theorem f69_broughamref25_Line_L3_ok (n : Nat) : ∀ (w_ : ByteArray) (parts : ByteArray) (i : Int) (s_0 : Int) (s_1 : Int) (s_2 : Int) (s_3 : Int) (s_4 : Int) (s_5 : Int) (s_6 : List Int) (w : ByteArray) (h : f69_broughamref25_Line_L3 n w_ parts i s_0 s_1 s_2 s_3 s_4 s_5 s_6 = some w) (o : Out) (hk : f69_broughamref25_Line_L3_k w o), At Tryd.prog Tryd.f69 0 3 ⟨[(1, oc (.ptr 0 0)), (3, oc (.d (.str w_))), (4, oc (.d (.str parts))), (5, oc (zi i))], [], [(0, [zi s_0, zi s_1, zi s_2, zi s_3, zi s_4, zi s_5, .d (.sl (.int .u8) s_6)])], 1⟩ o := by
  induction n with
  | zero => intro w_ parts i s_0 s_1 s_2 s_3 s_4 s_5 s_6 w h; rw [f69_broughamref25_Line_L3] at h; cases h
  | succ n ih =>
    intro w_ parts i s_0 s_1 s_2 s_3 s_4 s_5 s_6 w h o hk
    rw [f69_broughamref25_Line_L3] at h
    rcases iteS h with ⟨b707_e0, h⟩ | ⟨b707_e0, h⟩
    · refine At.step hm ht ⟨[], [true], [], [1, 3, 4, 5], [0]⟩ 5 ⟨[(1, oc (.ptr 0 0)), (3, oc (.d (.str w_))), (4, oc (.d (.str parts))), (5, oc (zi i))], [], [(0, [zi s_0, zi s_1, zi s_2, zi s_3, zi s_4, zi s_5, .d (.sl (.int .u8) s_6)])], 1⟩ [(decide ((i : Int) < ((parts.size : Nat) : Int))) = true] (by kernel_rfl) ⟨b707_e0, trivial⟩ ?_
      obtain ⟨g708_0, h⟩ := ifS h
      rcases iteS h with ⟨b708_e0, h⟩ | ⟨b708_e0, h⟩
      · refine At.step hm ht ⟨[], [true], [], [1, 3, 4, 5], [0]⟩ 6 ⟨[(1, oc (.ptr 0 0)), (3, oc (.d (.str w_))), (4, oc (.d (.str parts))), (5, oc (zi i))], [], [(0, [zi s_0, zi s_1, zi s_2, zi s_3, zi s_4, zi s_5, .d (.sl (.int .u8) s_6)])], 1⟩ [(0 : Int) ≤ i ∧ i < (((parts).size : Nat) : Int), (((byteAt parts i) : Int) == 98) = true] (by kernel_rfl) ⟨g708_0, b708_e0, trivial⟩ ?_
        obtain ⟨r709_0, cr709_0, h⟩ := bindS h
        obtain ⟨g709_1, h⟩ := ifS h
        obtain ⟨g709_2, h⟩ := ifS h
        refine At.step hm ht ⟨[(3, .call [] [] (f91_broughamref01_Hex_out r709_0))], [], [], [1, 3, 4, 5], [0]⟩ 4 ⟨[(1, oc (.ptr 0 0)), (3, oc (.d (.str (w_ ++ ((⟨#[32]⟩ : ByteArray) ++ r709_0))))), (4, oc (.d (.str parts))), (5, oc (zi i))], [], [(0, [zi s_0, zi s_1, zi s_2, zi s_3, zi s_4, zi s_5, .d (.sl (.int .u8) s_6)])], 1⟩ [FnOK Tryd.prog 91 (f91_broughamref01_Hex_in s_6) (f91_broughamref01_Hex_out r709_0), (⟨#[32]⟩ : ByteArray).size + r709_0.size ≤ 9223372036854775807, w_.size + ((⟨#[32]⟩ : ByteArray) ++ r709_0).size ≤ 9223372036854775807] (by kernel_rfl) ⟨(f91_broughamref01_Hex_ok n s_6 r709_0 cr709_0), g709_1, g709_2, trivial⟩ ?_
        refine At.step hm ht ⟨[], [], [], [1, 3, 4, 5], [0]⟩ 3 ⟨[(1, oc (.ptr 0 0)), (3, oc (.d (.str (w_ ++ ((⟨#[32]⟩ : ByteArray) ++ r709_0))))), (4, oc (.d (.str parts))), (5, oc (zi (IntKind.wrap .i64 (i + 1))))], [], [(0, [zi s_0, zi s_1, zi s_2, zi s_3, zi s_4, zi s_5, .d (.sl (.int .u8) s_6)])], 1⟩ [] (by kernel_rfl) trivial ?_
        exact ih (w_ ++ ((⟨#[32]⟩ : ByteArray) ++ r709_0)) parts (IntKind.wrap .i64 (i + 1)) s_0 s_1 s_2 s_3 s_4 s_5 s_6 w h o hk
      · refine At.step hm ht ⟨[], [false], [], [1, 3, 4, 5], [0]⟩ 7 ⟨[(1, oc (.ptr 0 0)), (3, oc (.d (.str w_))), (4, oc (.d (.str parts))), (5, oc (zi i))], [], [(0, [zi s_0, zi s_1, zi s_2, zi s_3, zi s_4, zi s_5, .d (.sl (.int .u8) s_6)])], 1⟩ [(0 : Int) ≤ i ∧ i < (((parts).size : Nat) : Int), (((byteAt parts i) : Int) == 98) = false] (by kernel_rfl) ⟨g708_0, b708_e0, trivial⟩ ?_
        obtain ⟨g730_0, h⟩ := ifS h
        obtain ⟨r730_1, cr730_1, h⟩ := bindS h
        obtain ⟨r730_2, cr730_2, h⟩ := bindS h
        obtain ⟨g730_3, h⟩ := ifS h
        obtain ⟨g730_4, h⟩ := ifS h
        refine At.step hm ht ⟨[(5, .call [] [] (f74_broughamref25_get_out r730_1)), (6, .call [] [] (f62_broughamref01_Text_out r730_2))], [], [], [1, 3, 4, 5], [0]⟩ 4 ⟨[(1, oc (.ptr 0 0)), (3, oc (.d (.str (w_ ++ ((⟨#[32]⟩ : ByteArray) ++ r730_2))))), (4, oc (.d (.str parts))), (5, oc (zi i))], [], [(0, [zi s_0, zi s_1, zi s_2, zi s_3, zi s_4, zi s_5, .d (.sl (.int .u8) s_6)])], 1⟩ [(0 : Int) ≤ i ∧ i < (((parts).size : Nat) : Int), FnOK Tryd.prog 74 (f74_broughamref25_get_in s_0 s_1 s_2 s_3 s_4 s_5 s_6 (byteAt parts i)) (f74_broughamref25_get_out r730_1), FnOK Tryd.prog 62 (f62_broughamref01_Text_in r730_1) (f62_broughamref01_Text_out r730_2), (⟨#[32]⟩ : ByteArray).size + r730_2.size ≤ 9223372036854775807, w_.size + ((⟨#[32]⟩ : ByteArray) ++ r730_2).size ≤ 9223372036854775807] (by kernel_rfl) ⟨g730_0, (f74_broughamref25_get_ok s_0 s_1 s_2 s_3 s_4 s_5 s_6 (byteAt parts i) r730_1 cr730_1), (f62_broughamref01_Text_ok n r730_1 r730_2 cr730_2), g730_3, g730_4, trivial⟩ ?_
        refine At.step hm ht ⟨[], [], [], [1, 3, 4, 5], [0]⟩ 3 ⟨[(1, oc (.ptr 0 0)), (3, oc (.d (.str (w_ ++ ((⟨#[32]⟩ : ByteArray) ++ r730_2))))), (4, oc (.d (.str parts))), (5, oc (zi (IntKind.wrap .i64 (i + 1))))], [], [(0, [zi s_0, zi s_1, zi s_2, zi s_3, zi s_4, zi s_5, .d (.sl (.int .u8) s_6)])], 1⟩ [] (by kernel_rfl) trivial ?_
        exact ih (w_ ++ ((⟨#[32]⟩ : ByteArray) ++ r730_2)) parts (IntKind.wrap .i64 (i + 1)) s_0 s_1 s_2 s_3 s_4 s_5 s_6 w h o hk
    · refine At.step hm ht ⟨[], [false], [], [3], []⟩ 8 ⟨[(3, oc (.d (.str w_)))], [], [], 0⟩ [(decide ((i : Int) < ((parts.size : Nat) : Int))) = false] (by kernel_rfl) ⟨b707_e0, trivial⟩ ?_
      have h := Option.some.inj h
      subst h
      exact hk
def f69_broughamref25_Line (n : Nat) (s_0 : Int) (s_1 : Int) (s_2 : Int) (s_3 : Int) (s_4 : Int) (s_5 : Int) (s_6 : List Int) : Option (ByteArray) :=
  (f73_broughamref25_word s_0).bind fun r705_0 =>
  (f69_broughamref25_Line_L3 n r705_0.1 r705_0.2 0 s_0 s_1 s_2 s_3 s_4 s_5 s_6).bind fun w739 =>
  if w739.size + (⟨#[10]⟩ : ByteArray).size ≤ 9223372036854775807 then
  some (w739 ++ (⟨#[10]⟩ : ByteArray))
  else none
theorem f69_broughamref25_Line_ok (n : Nat) (s_0 : Int) (s_1 : Int) (s_2 : Int) (s_3 : Int) (s_4 : Int) (s_5 : Int) (s_6 : List Int) (r : ByteArray) (h : f69_broughamref25_Line n s_0 s_1 s_2 s_3 s_4 s_5 s_6 = some r) : FnOK Tryd.prog 69 (f69_broughamref25_Line_in s_0 s_1 s_2 s_3 s_4 s_5 s_6) (f69_broughamref25_Line_out r) := by
  unfold f69_broughamref25_Line at h
  refine At.fn (r := 0) Tryd.func69 rfl (by kernel_rfl) rfl rfl (by kernel_rfl) ?_
  show At Tryd.prog Tryd.f69 0 0 ⟨[(0, .one (.agg [zi s_0, zi s_1, zi s_2, zi s_3, zi s_4, zi s_5, .d (.sl (.int .u8) s_6)]))], [], [], 0⟩ _
  refine At.step hm ht ⟨[], [], [], [1], [0]⟩ 1 ⟨[(1, oc (.ptr 0 0))], [], [(0, [zi s_0, zi s_1, zi s_2, zi s_3, zi s_4, zi s_5, .d (.sl (.int .u8) s_6)])], 1⟩ [] (by kernel_rfl) trivial ?_
  obtain ⟨r705_0, cr705_0, h⟩ := bindS h
  refine At.step hm ht ⟨[(2, .call [] [] (f73_broughamref25_word_out r705_0))], [], [], [1, 3, 4], [0]⟩ 2 ⟨[(1, oc (.ptr 0 0)), (3, oc (.d (.str r705_0.1))), (4, oc (.d (.str r705_0.2)))], [], [(0, [zi s_0, zi s_1, zi s_2, zi s_3, zi s_4, zi s_5, .d (.sl (.int .u8) s_6)])], 1⟩ [FnOK Tryd.prog 73 (f73_broughamref25_word_in s_0) (f73_broughamref25_word_out r705_0)] (by kernel_rfl) ⟨(f73_broughamref25_word_ok s_0 r705_0 cr705_0), trivial⟩ ?_
  refine At.step hm ht ⟨[], [], [], [1, 3, 4, 5], [0]⟩ 3 ⟨[(1, oc (.ptr 0 0)), (3, oc (.d (.str r705_0.1))), (4, oc (.d (.str r705_0.2))), (5, oc (zi 0))], [], [(0, [zi s_0, zi s_1, zi s_2, zi s_3, zi s_4, zi s_5, .d (.sl (.int .u8) s_6)])], 1⟩ [] (by kernel_rfl) trivial ?_
  obtain ⟨w739, cw739, h⟩ := bindS h
  refine f69_broughamref25_Line_L3_ok n r705_0.1 r705_0.2 0 s_0 s_1 s_2 s_3 s_4 s_5 s_6 w739 cw739 _ ?_
  show At Tryd.prog Tryd.f69 0 8 ⟨[(3, oc (.d (.str w739)))], [], [], 0⟩ _
  obtain ⟨g741_0, h⟩ := ifS h
  have h := Option.some.inj h
  subst h
  exact At.fin hm ht ⟨[], [], [], [2], []⟩ [w739.size + (⟨#[10]⟩ : ByteArray).size ≤ 9223372036854775807] (by kernel_rfl) ⟨g741_0, trivial⟩
/-! brougham/broughamref25.Text -/
def f41_broughamref25_Text_in (l : List (Int × Int × Int × Int × Int × Int × List Int)) : Inn := ⟨[.c (.d (.sl (.pair (.int .i64) (.pair (.int .i64) (.pair (.int .i64) (.pair (.int .i64) (.pair (.int .i64) (.pair (.int .i64) (.slice (.int .u8)))))))) l))], [], [], 0⟩
def f41_broughamref25_Text_out (r : ByteArray × Int) : Out := ⟨.tup [.c (.d (.str r.1)), .c (zi r.2)], [], [], 0⟩
def f41_broughamref25_Text_L5 : Nat → (List (Int × Int × Int × Int × Int × Int × List Int)) → ByteArray → Int → Option ((ByteArray × Int) ⊕ (ByteArray))
  | 0, _, _, _ => none
  | n + 1, l, s, i =>
    if (decide ((i : Int) < ((l.length : Nat) : Int))) = true then
      if (0 : Int) ≤ i ∧ i < (((l).length : Nat) : Int) then
      (f44_broughamref25_Right n ((l.getD i.toNat (0, (0, (0, (0, (0, (0, []))))))).1) (((l.getD i.toNat (0, (0, (0, (0, (0, (0, []))))))).2).1) ((((l.getD i.toNat (0, (0, (0, (0, (0, (0, []))))))).2).2).1) (((((l.getD i.toNat (0, (0, (0, (0, (0, (0, []))))))).2).2).2).1) ((((((l.getD i.toNat (0, (0, (0, (0, (0, (0, []))))))).2).2).2).2).1) (((((((l.getD i.toNat (0, (0, (0, (0, (0, (0, []))))))).2).2).2).2).2).1) (((((((l.getD i.toNat (0, (0, (0, (0, (0, (0, []))))))).2).2).2).2).2).2)).bind fun r663_1 =>
      if (!r663_1) = true then
        some (.inl ((⟨#[]⟩ : ByteArray), 230))
      else
        if (0 : Int) ≤ i ∧ i < (((l).length : Nat) : Int) then
        (f69_broughamref25_Line n ((l.getD i.toNat (0, (0, (0, (0, (0, (0, []))))))).1) (((l.getD i.toNat (0, (0, (0, (0, (0, (0, []))))))).2).1) ((((l.getD i.toNat (0, (0, (0, (0, (0, (0, []))))))).2).2).1) (((((l.getD i.toNat (0, (0, (0, (0, (0, (0, []))))))).2).2).2).1) ((((((l.getD i.toNat (0, (0, (0, (0, (0, (0, []))))))).2).2).2).2).1) (((((((l.getD i.toNat (0, (0, (0, (0, (0, (0, []))))))).2).2).2).2).2).1) (((((((l.getD i.toNat (0, (0, (0, (0, (0, (0, []))))))).2).2).2).2).2).2)).bind fun r703_1 =>
        if s.size + r703_1.size ≤ 9223372036854775807 then
        if (decide (((((s ++ r703_1).size : Nat) : Int) : Int) > 65536)) = true then
          some (.inl ((⟨#[]⟩ : ByteArray), 230))
        else
          f41_broughamref25_Text_L5 n l (s ++ r703_1) (IntKind.wrap .i64 (i + 1))
        else none
        else none
      else none
    else
      some (.inr s)
def f41_broughamref25_Text_L5_k (w : (ByteArray × Int) ⊕ (ByteArray)) (o : Out) : Prop := match w with
  | .inl e => o = f41_broughamref25_Text_out e
  | .inr e => At Tryd.prog Tryd.f41 0 12 ⟨[(4, oc (.d (.str e)))], [], [], 0⟩ o
theorem f41_broughamref25_Text_L5_ok (n : Nat) : ∀ (l : List (Int × Int × Int × Int × Int × Int × List Int)) (s : ByteArray) (i : Int) (w : (ByteArray × Int) ⊕ (ByteArray)) (h : f41_broughamref25_Text_L5 n l s i = some w) (o : Out) (hk : f41_broughamref25_Text_L5_k w o), At Tryd.prog Tryd.f41 0 5 ⟨[(0, oc (.d (.sl (.pair (.int .i64) (.pair (.int .i64) (.pair (.int .i64) (.pair (.int .i64) (.pair (.int .i64) (.pair (.int .i64) (.slice (.int .u8)))))))) l))), (4, oc (.d (.str s))), (5, oc (zi i))], [], [], 0⟩ o := by
  induction n with
  | zero => intro l s i w h; rw [f41_broughamref25_Text_L5] at h; cases h
  | succ n ih =>
    intro l s i w h o hk
    rw [f41_broughamref25_Text_L5] at h
    rcases iteS h with ⟨b662_e0, h⟩ | ⟨b662_e0, h⟩
    · refine At.step hm ht ⟨[], [true], [], [0, 4, 5], []⟩ 7 ⟨[(0, oc (.d (.sl (.pair (.int .i64) (.pair (.int .i64) (.pair (.int .i64) (.pair (.int .i64) (.pair (.int .i64) (.pair (.int .i64) (.slice (.int .u8)))))))) l))), (4, oc (.d (.str s))), (5, oc (zi i))], [], [], 0⟩ [(decide ((i : Int) < ((l.length : Nat) : Int))) = true] (by kernel_rfl) ⟨b662_e0, trivial⟩ ?_
      obtain ⟨g663_0, h⟩ := ifS h
      obtain ⟨r663_1, cr663_1, h⟩ := bindS h
      rcases iteS h with ⟨b663_e0, h⟩ | ⟨b663_e0, h⟩
      · refine At.step hm ht ⟨[(4, .call [] [] (f44_broughamref25_Right_out r663_1))], [true], [], [], []⟩ 8 ⟨[], [], [], 0⟩ [(0 : Int) ≤ i ∧ i < (((l).length : Nat) : Int), FnOK Tryd.prog 44 (f44_broughamref25_Right_in ((l.getD i.toNat (0, (0, (0, (0, (0, (0, []))))))).1) (((l.getD i.toNat (0, (0, (0, (0, (0, (0, []))))))).2).1) ((((l.getD i.toNat (0, (0, (0, (0, (0, (0, []))))))).2).2).1) (((((l.getD i.toNat (0, (0, (0, (0, (0, (0, []))))))).2).2).2).1) ((((((l.getD i.toNat (0, (0, (0, (0, (0, (0, []))))))).2).2).2).2).1) (((((((l.getD i.toNat (0, (0, (0, (0, (0, (0, []))))))).2).2).2).2).2).1) (((((((l.getD i.toNat (0, (0, (0, (0, (0, (0, []))))))).2).2).2).2).2).2)) (f44_broughamref25_Right_out r663_1), (!r663_1) = true] (by kernel_rfl) ⟨g663_0, (f44_broughamref25_Right_ok n ((l.getD i.toNat (0, (0, (0, (0, (0, (0, []))))))).1) (((l.getD i.toNat (0, (0, (0, (0, (0, (0, []))))))).2).1) ((((l.getD i.toNat (0, (0, (0, (0, (0, (0, []))))))).2).2).1) (((((l.getD i.toNat (0, (0, (0, (0, (0, (0, []))))))).2).2).2).1) ((((((l.getD i.toNat (0, (0, (0, (0, (0, (0, []))))))).2).2).2).2).1) (((((((l.getD i.toNat (0, (0, (0, (0, (0, (0, []))))))).2).2).2).2).2).1) (((((((l.getD i.toNat (0, (0, (0, (0, (0, (0, []))))))).2).2).2).2).2).2) r663_1 cr663_1), b663_e0, trivial⟩ ?_
        have h := Option.some.inj h
        subst h
        have hk : o = f41_broughamref25_Text_out ((⟨#[]⟩ : ByteArray), 230) := hk
        subst hk
        exact At.fin hm ht ⟨[], [], [], [2, 3], []⟩ [] (by kernel_rfl) trivial
      · refine At.step hm ht ⟨[(4, .call [] [] (f44_broughamref25_Right_out r663_1))], [false], [], [0, 4, 5], []⟩ 9 ⟨[(0, oc (.d (.sl (.pair (.int .i64) (.pair (.int .i64) (.pair (.int .i64) (.pair (.int .i64) (.pair (.int .i64) (.pair (.int .i64) (.slice (.int .u8)))))))) l))), (4, oc (.d (.str s))), (5, oc (zi i))], [], [], 0⟩ [(0 : Int) ≤ i ∧ i < (((l).length : Nat) : Int), FnOK Tryd.prog 44 (f44_broughamref25_Right_in ((l.getD i.toNat (0, (0, (0, (0, (0, (0, []))))))).1) (((l.getD i.toNat (0, (0, (0, (0, (0, (0, []))))))).2).1) ((((l.getD i.toNat (0, (0, (0, (0, (0, (0, []))))))).2).2).1) (((((l.getD i.toNat (0, (0, (0, (0, (0, (0, []))))))).2).2).2).1) ((((((l.getD i.toNat (0, (0, (0, (0, (0, (0, []))))))).2).2).2).2).1) (((((((l.getD i.toNat (0, (0, (0, (0, (0, (0, []))))))).2).2).2).2).2).1) (((((((l.getD i.toNat (0, (0, (0, (0, (0, (0, []))))))).2).2).2).2).2).2)) (f44_broughamref25_Right_out r663_1), (!r663_1) = false] (by kernel_rfl) ⟨g663_0, (f44_broughamref25_Right_ok n ((l.getD i.toNat (0, (0, (0, (0, (0, (0, []))))))).1) (((l.getD i.toNat (0, (0, (0, (0, (0, (0, []))))))).2).1) ((((l.getD i.toNat (0, (0, (0, (0, (0, (0, []))))))).2).2).1) (((((l.getD i.toNat (0, (0, (0, (0, (0, (0, []))))))).2).2).2).1) ((((((l.getD i.toNat (0, (0, (0, (0, (0, (0, []))))))).2).2).2).2).1) (((((((l.getD i.toNat (0, (0, (0, (0, (0, (0, []))))))).2).2).2).2).2).1) (((((((l.getD i.toNat (0, (0, (0, (0, (0, (0, []))))))).2).2).2).2).2).2) r663_1 cr663_1), b663_e0, trivial⟩ ?_
        obtain ⟨g703_0, h⟩ := ifS h
        obtain ⟨r703_1, cr703_1, h⟩ := bindS h
        obtain ⟨g703_2, h⟩ := ifS h
        refine At.step hm ht ⟨[(5, .call [] [] (f69_broughamref25_Line_out r703_1))], [], [], [0, 4, 5], []⟩ 10 ⟨[(0, oc (.d (.sl (.pair (.int .i64) (.pair (.int .i64) (.pair (.int .i64) (.pair (.int .i64) (.pair (.int .i64) (.pair (.int .i64) (.slice (.int .u8)))))))) l))), (4, oc (.d (.str (s ++ r703_1)))), (5, oc (zi i))], [], [], 0⟩ [(0 : Int) ≤ i ∧ i < (((l).length : Nat) : Int), FnOK Tryd.prog 69 (f69_broughamref25_Line_in ((l.getD i.toNat (0, (0, (0, (0, (0, (0, []))))))).1) (((l.getD i.toNat (0, (0, (0, (0, (0, (0, []))))))).2).1) ((((l.getD i.toNat (0, (0, (0, (0, (0, (0, []))))))).2).2).1) (((((l.getD i.toNat (0, (0, (0, (0, (0, (0, []))))))).2).2).2).1) ((((((l.getD i.toNat (0, (0, (0, (0, (0, (0, []))))))).2).2).2).2).1) (((((((l.getD i.toNat (0, (0, (0, (0, (0, (0, []))))))).2).2).2).2).2).1) (((((((l.getD i.toNat (0, (0, (0, (0, (0, (0, []))))))).2).2).2).2).2).2)) (f69_broughamref25_Line_out r703_1), s.size + r703_1.size ≤ 9223372036854775807] (by kernel_rfl) ⟨g703_0, (f69_broughamref25_Line_ok n ((l.getD i.toNat (0, (0, (0, (0, (0, (0, []))))))).1) (((l.getD i.toNat (0, (0, (0, (0, (0, (0, []))))))).2).1) ((((l.getD i.toNat (0, (0, (0, (0, (0, (0, []))))))).2).2).1) (((((l.getD i.toNat (0, (0, (0, (0, (0, (0, []))))))).2).2).2).1) ((((((l.getD i.toNat (0, (0, (0, (0, (0, (0, []))))))).2).2).2).2).1) (((((((l.getD i.toNat (0, (0, (0, (0, (0, (0, []))))))).2).2).2).2).2).1) (((((((l.getD i.toNat (0, (0, (0, (0, (0, (0, []))))))).2).2).2).2).2).2) r703_1 cr703_1), g703_2, trivial⟩ ?_
        rcases iteS h with ⟨b742_e0, h⟩ | ⟨b742_e0, h⟩
        · refine At.step hm ht ⟨[], [true], [], [], []⟩ 11 ⟨[], [], [], 0⟩ [(decide (((((s ++ r703_1).size : Nat) : Int) : Int) > 65536)) = true] (by kernel_rfl) ⟨b742_e0, trivial⟩ ?_
          have h := Option.some.inj h
          subst h
          have hk : o = f41_broughamref25_Text_out ((⟨#[]⟩ : ByteArray), 230) := hk
          subst hk
          exact At.fin hm ht ⟨[], [], [], [2, 3], []⟩ [] (by kernel_rfl) trivial
        · refine At.step hm ht ⟨[], [false], [], [0, 4, 5], []⟩ 6 ⟨[(0, oc (.d (.sl (.pair (.int .i64) (.pair (.int .i64) (.pair (.int .i64) (.pair (.int .i64) (.pair (.int .i64) (.pair (.int .i64) (.slice (.int .u8)))))))) l))), (4, oc (.d (.str (s ++ r703_1)))), (5, oc (zi i))], [], [], 0⟩ [(decide (((((s ++ r703_1).size : Nat) : Int) : Int) > 65536)) = false] (by kernel_rfl) ⟨b742_e0, trivial⟩ ?_
          refine At.step hm ht ⟨[], [], [], [0, 4, 5], []⟩ 5 ⟨[(0, oc (.d (.sl (.pair (.int .i64) (.pair (.int .i64) (.pair (.int .i64) (.pair (.int .i64) (.pair (.int .i64) (.pair (.int .i64) (.slice (.int .u8)))))))) l))), (4, oc (.d (.str (s ++ r703_1)))), (5, oc (zi (IntKind.wrap .i64 (i + 1))))], [], [], 0⟩ [] (by kernel_rfl) trivial ?_
          exact ih l (s ++ r703_1) (IntKind.wrap .i64 (i + 1)) w h o hk
    · refine At.step hm ht ⟨[], [false], [], [4], []⟩ 12 ⟨[(4, oc (.d (.str s)))], [], [], 0⟩ [(decide ((i : Int) < ((l.length : Nat) : Int))) = false] (by kernel_rfl) ⟨b662_e0, trivial⟩ ?_
      have h := Option.some.inj h
      subst h
      exact hk
def f41_broughamref25_Text (n : Nat) (l : List (Int × Int × Int × Int × Int × Int × List Int)) : Option (ByteArray × Int) :=
  if (decide ((((l.length : Nat) : Int) : Int) > 512)) = true then
    some ((⟨#[]⟩ : ByteArray), 230)
  else
    (f41_broughamref25_Text_L5 n l (⟨#[]⟩ : ByteArray) 0).bind fun w745 =>
    match w745 with
    | .inl e746 =>
      some (e746.1, e746.2)
    | .inr e747 =>
      some (e747, 0)
theorem f41_broughamref25_Text_ok (n : Nat) (l : List (Int × Int × Int × Int × Int × Int × List Int)) (r : ByteArray × Int) (h : f41_broughamref25_Text n l = some r) : FnOK Tryd.prog 41 (f41_broughamref25_Text_in l) (f41_broughamref25_Text_out r) := by
  unfold f41_broughamref25_Text at h
  refine At.fn (r := 0) Tryd.func41 rfl (by kernel_rfl) rfl rfl (by kernel_rfl) ?_
  show At Tryd.prog Tryd.f41 0 0 ⟨[(0, oc (.d (.sl (.pair (.int .i64) (.pair (.int .i64) (.pair (.int .i64) (.pair (.int .i64) (.pair (.int .i64) (.pair (.int .i64) (.slice (.int .u8)))))))) l)))], [], [], 0⟩ _
  refine At.step hm ht ⟨[], [], [], [0], []⟩ 1 ⟨[(0, oc (.d (.sl (.pair (.int .i64) (.pair (.int .i64) (.pair (.int .i64) (.pair (.int .i64) (.pair (.int .i64) (.pair (.int .i64) (.slice (.int .u8)))))))) l)))], [], [], 0⟩ [] (by kernel_rfl) trivial ?_
  rcases iteS h with ⟨b658_e0, h⟩ | ⟨b658_e0, h⟩
  · refine At.step hm ht ⟨[], [true], [], [], []⟩ 2 ⟨[], [], [], 0⟩ [(decide ((((l.length : Nat) : Int) : Int) > 512)) = true] (by kernel_rfl) ⟨b658_e0, trivial⟩ ?_
    have h := Option.some.inj h
    subst h
    exact At.fin hm ht ⟨[], [], [], [2, 3], []⟩ [] (by kernel_rfl) trivial
  · refine At.step hm ht ⟨[], [false], [], [0], []⟩ 3 ⟨[(0, oc (.d (.sl (.pair (.int .i64) (.pair (.int .i64) (.pair (.int .i64) (.pair (.int .i64) (.pair (.int .i64) (.pair (.int .i64) (.slice (.int .u8)))))))) l)))], [], [], 0⟩ [(decide ((((l.length : Nat) : Int) : Int) > 512)) = false] (by kernel_rfl) ⟨b658_e0, trivial⟩ ?_
    refine At.step hm ht ⟨[], [], [], [0, 4], []⟩ 4 ⟨[(0, oc (.d (.sl (.pair (.int .i64) (.pair (.int .i64) (.pair (.int .i64) (.pair (.int .i64) (.pair (.int .i64) (.pair (.int .i64) (.slice (.int .u8)))))))) l))), (4, oc (.d (.str (⟨#[]⟩ : ByteArray))))], [], [], 0⟩ [] (by kernel_rfl) trivial ?_
    refine At.step hm ht ⟨[], [], [], [0, 4, 5], []⟩ 5 ⟨[(0, oc (.d (.sl (.pair (.int .i64) (.pair (.int .i64) (.pair (.int .i64) (.pair (.int .i64) (.pair (.int .i64) (.pair (.int .i64) (.slice (.int .u8)))))))) l))), (4, oc (.d (.str (⟨#[]⟩ : ByteArray)))), (5, oc (zi 0))], [], [], 0⟩ [] (by kernel_rfl) trivial ?_
    obtain ⟨w745, cw745, h⟩ := bindS h
    refine f41_broughamref25_Text_L5_ok n l (⟨#[]⟩ : ByteArray) 0 w745 cw745 _ ?_
    rcases w745 with e746 | e747
    · have h := Option.some.inj h
      subst h
      rfl
    · show At Tryd.prog Tryd.f41 0 12 ⟨[(4, oc (.d (.str e747)))], [], [], 0⟩ _
      have h := Option.some.inj h
      subst h
      exact At.fin hm ht ⟨[], [], [], [2, 3], []⟩ [] (by kernel_rfl) trivial
/-! brougham/script.Same -/
def f42_script_Same_in (a : List (Int × Int × Int × Int × Int × Int × List Int)) (b : List (Int × Int × Int × Int × Int × Int × List Int)) : Inn := ⟨[.c (.d (.sl (.pair (.int .i64) (.pair (.int .i64) (.pair (.int .i64) (.pair (.int .i64) (.pair (.int .i64) (.pair (.int .i64) (.slice (.int .u8)))))))) a)), .c (.d (.sl (.pair (.int .i64) (.pair (.int .i64) (.pair (.int .i64) (.pair (.int .i64) (.pair (.int .i64) (.pair (.int .i64) (.slice (.int .u8)))))))) b))], [], [], 0⟩
def f42_script_Same_out (r : Bool) : Out := ⟨oc (.d (.bool r)), [], [], 0⟩
def f42_script_Same_L4 : Nat → (List (Int × Int × Int × Int × Int × Int × List Int)) → (List (Int × Int × Int × Int × Int × Int × List Int)) → Int → Int → Option ((Bool) ⊕ (Unit))
  | 0, _, _, _, _ => none
  | n + 1, b, t13, t14, t15 =>
    if (decide ((t15 : Int) < t14)) = true then
      if (0 : Int) ≤ t15 ∧ t15 < (((t13).length : Nat) : Int) then
      if (0 : Int) ≤ t15 ∧ t15 < (((b).length : Nat) : Int) then
      if ((((t13.getD t15.toNat (0, (0, (0, (0, (0, (0, []))))))).1) : Int) != ((b.getD t15.toNat (0, (0, (0, (0, (0, (0, []))))))).1)) = true then
        some (.inl false)
      else
        if (((((t13.getD t15.toNat (0, (0, (0, (0, (0, (0, []))))))).2).1) : Int) != (((b.getD t15.toNat (0, (0, (0, (0, (0, (0, []))))))).2).1)) = true then
          some (.inl false)
        else
          if ((((((t13.getD t15.toNat (0, (0, (0, (0, (0, (0, []))))))).2).2).1) : Int) != ((((b.getD t15.toNat (0, (0, (0, (0, (0, (0, []))))))).2).2).1)) = true then
            some (.inl false)
          else
            if (((((((t13.getD t15.toNat (0, (0, (0, (0, (0, (0, []))))))).2).2).2).1) : Int) != (((((b.getD t15.toNat (0, (0, (0, (0, (0, (0, []))))))).2).2).2).1)) = true then
              some (.inl false)
            else
              if ((((((((t13.getD t15.toNat (0, (0, (0, (0, (0, (0, []))))))).2).2).2).2).1) : Int) != ((((((b.getD t15.toNat (0, (0, (0, (0, (0, (0, []))))))).2).2).2).2).1)) = true then
                some (.inl false)
              else
                if (((((((((t13.getD t15.toNat (0, (0, (0, (0, (0, (0, []))))))).2).2).2).2).2).1) : Int) != (((((((b.getD t15.toNat (0, (0, (0, (0, (0, (0, []))))))).2).2).2).2).2).1)) = true then
                  some (.inl false)
                else
                  if (!((strOfNums (((((((t13.getD t15.toNat (0, (0, (0, (0, (0, (0, []))))))).2).2).2).2).2).2)).toList == (strOfNums (((((((b.getD t15.toNat (0, (0, (0, (0, (0, (0, []))))))).2).2).2).2).2).2)).toList)) = true then
                    some (.inl false)
                  else
                    f42_script_Same_L4 n b t13 t14 (IntKind.wrap .i64 (t15 + 1))
      else none
      else none
    else
      some (.inr ())
def f42_script_Same_L4_k (w : (Bool) ⊕ (Unit)) (o : Out) : Prop := match w with
  | .inl e => o = f42_script_Same_out e
  | .inr e => At Tryd.prog Tryd.f42 0 10 ⟨[], [], [], 0⟩ o
theorem f42_script_Same_L4_ok (n : Nat) : ∀ (b : List (Int × Int × Int × Int × Int × Int × List Int)) (t13 : List (Int × Int × Int × Int × Int × Int × List Int)) (t14 : Int) (t15 : Int) (w : (Bool) ⊕ (Unit)) (h : f42_script_Same_L4 n b t13 t14 t15 = some w) (o : Out) (hk : f42_script_Same_L4_k w o), At Tryd.prog Tryd.f42 0 4 ⟨[(1, oc (.d (.sl (.pair (.int .i64) (.pair (.int .i64) (.pair (.int .i64) (.pair (.int .i64) (.pair (.int .i64) (.pair (.int .i64) (.slice (.int .u8)))))))) b))), (13, oc (.d (.sl (.pair (.int .i64) (.pair (.int .i64) (.pair (.int .i64) (.pair (.int .i64) (.pair (.int .i64) (.pair (.int .i64) (.slice (.int .u8)))))))) t13))), (14, oc (zi t14)), (15, oc (zi t15))], [], [], 0⟩ o := by
  induction n with
  | zero => intro b t13 t14 t15 w h; rw [f42_script_Same_L4] at h; cases h
  | succ n ih =>
    intro b t13 t14 t15 w h o hk
    rw [f42_script_Same_L4] at h
    rcases iteS h with ⟨b756_e0, h⟩ | ⟨b756_e0, h⟩
    · refine At.step hm ht ⟨[], [true], [], [1, 13, 14, 15], []⟩ 5 ⟨[(1, oc (.d (.sl (.pair (.int .i64) (.pair (.int .i64) (.pair (.int .i64) (.pair (.int .i64) (.pair (.int .i64) (.pair (.int .i64) (.slice (.int .u8)))))))) b))), (13, oc (.d (.sl (.pair (.int .i64) (.pair (.int .i64) (.pair (.int .i64) (.pair (.int .i64) (.pair (.int .i64) (.pair (.int .i64) (.slice (.int .u8)))))))) t13))), (14, oc (zi t14)), (15, oc (zi t15))], [], [], 0⟩ [(decide ((t15 : Int) < t14)) = true] (by kernel_rfl) ⟨b756_e0, trivial⟩ ?_
      obtain ⟨g757_0, h⟩ := ifS h
      refine At.step hm ht ⟨[], [], [], [1, 5, 6, 13, 14, 15], [3]⟩ 6 ⟨[(1, oc (.d (.sl (.pair (.int .i64) (.pair (.int .i64) (.pair (.int .i64) (.pair (.int .i64) (.pair (.int .i64) (.pair (.int .i64) (.slice (.int .u8)))))))) b))), (5, oc (zi t15)), (6, oc (.ptr 0 0)), (13, oc (.d (.sl (.pair (.int .i64) (.pair (.int .i64) (.pair (.int .i64) (.pair (.int .i64) (.pair (.int .i64) (.pair (.int .i64) (.slice (.int .u8)))))))) t13))), (14, oc (zi t14)), (15, oc (zi t15))], [], [(0, [zi ((t13.getD t15.toNat (0, (0, (0, (0, (0, (0, []))))))).1), zi (((t13.getD t15.toNat (0, (0, (0, (0, (0, (0, []))))))).2).1), zi ((((t13.getD t15.toNat (0, (0, (0, (0, (0, (0, []))))))).2).2).1), zi (((((t13.getD t15.toNat (0, (0, (0, (0, (0, (0, []))))))).2).2).2).1), zi ((((((t13.getD t15.toNat (0, (0, (0, (0, (0, (0, []))))))).2).2).2).2).1), zi (((((((t13.getD t15.toNat (0, (0, (0, (0, (0, (0, []))))))).2).2).2).2).2).1), .d (.sl (.int .u8) (((((((t13.getD t15.toNat (0, (0, (0, (0, (0, (0, []))))))).2).2).2).2).2).2))])], 1⟩ [(0 : Int) ≤ t15 ∧ t15 < (((t13).length : Nat) : Int), 0 + 7 ≤ 7] (by kernel_rfl) ⟨g757_0, (by decide), trivial⟩ ?_
      obtain ⟨g758_0, h⟩ := ifS h
      refine At.step hm ht ⟨[], [], [], [1, 6, 7, 13, 14, 15], [0, 5]⟩ 7 ⟨[(1, oc (.d (.sl (.pair (.int .i64) (.pair (.int .i64) (.pair (.int .i64) (.pair (.int .i64) (.pair (.int .i64) (.pair (.int .i64) (.slice (.int .u8)))))))) b))), (6, oc (.ptr 0 0)), (7, oc (.ptr 1 0)), (13, oc (.d (.sl (.pair (.int .i64) (.pair (.int .i64) (.pair (.int .i64) (.pair (.int .i64) (.pair (.int .i64) (.pair (.int .i64) (.slice (.int .u8)))))))) t13))), (14, oc (zi t14)), (15, oc (zi t15))], [], [(0, [zi ((t13.getD t15.toNat (0, (0, (0, (0, (0, (0, []))))))).1), zi (((t13.getD t15.toNat (0, (0, (0, (0, (0, (0, []))))))).2).1), zi ((((t13.getD t15.toNat (0, (0, (0, (0, (0, (0, []))))))).2).2).1), zi (((((t13.getD t15.toNat (0, (0, (0, (0, (0, (0, []))))))).2).2).2).1), zi ((((((t13.getD t15.toNat (0, (0, (0, (0, (0, (0, []))))))).2).2).2).2).1), zi (((((((t13.getD t15.toNat (0, (0, (0, (0, (0, (0, []))))))).2).2).2).2).2).1), .d (.sl (.int .u8) (((((((t13.getD t15.toNat (0, (0, (0, (0, (0, (0, []))))))).2).2).2).2).2).2))]), (1, [zi ((b.getD t15.toNat (0, (0, (0, (0, (0, (0, []))))))).1), zi (((b.getD t15.toNat (0, (0, (0, (0, (0, (0, []))))))).2).1), zi ((((b.getD t15.toNat (0, (0, (0, (0, (0, (0, []))))))).2).2).1), zi (((((b.getD t15.toNat (0, (0, (0, (0, (0, (0, []))))))).2).2).2).1), zi ((((((b.getD t15.toNat (0, (0, (0, (0, (0, (0, []))))))).2).2).2).2).1), zi (((((((b.getD t15.toNat (0, (0, (0, (0, (0, (0, []))))))).2).2).2).2).2).1), .d (.sl (.int .u8) (((((((b.getD t15.toNat (0, (0, (0, (0, (0, (0, []))))))).2).2).2).2).2).2))])], 2⟩ [(0 : Int) ≤ t15 ∧ t15 < (((b).length : Nat) : Int), 0 + 7 ≤ 7] (by kernel_rfl) ⟨g758_0, (by decide), trivial⟩ ?_
      rcases iteS h with ⟨b759_5, h⟩ | ⟨b759_5, h⟩
      · refine At.step hm ht ⟨[(5, .b true)], [true], [], [], []⟩ 8 ⟨[], [], [], 0⟩ [((((t13.getD t15.toNat (0, (0, (0, (0, (0, (0, []))))))).1) : Int) != ((b.getD t15.toNat (0, (0, (0, (0, (0, (0, []))))))).1)) = true, true = true] (by kernel_rfl) ⟨b759_5, rfl, trivial⟩ ?_
        have h := Option.some.inj h
        subst h
        have hk : o = f42_script_Same_out false := hk
        subst hk
        exact At.fin hm ht ⟨[], [], [], [4], []⟩ [] (by kernel_rfl) trivial
      · rcases iteS h with ⟨b759_12, h⟩ | ⟨b759_12, h⟩
        · refine At.step hm ht ⟨[(5, .b false), (12, .b true)], [true], [], [], []⟩ 8 ⟨[], [], [], 0⟩ [((((t13.getD t15.toNat (0, (0, (0, (0, (0, (0, []))))))).1) : Int) != ((b.getD t15.toNat (0, (0, (0, (0, (0, (0, []))))))).1)) = false, (((((t13.getD t15.toNat (0, (0, (0, (0, (0, (0, []))))))).2).1) : Int) != (((b.getD t15.toNat (0, (0, (0, (0, (0, (0, []))))))).2).1)) = true, true = true] (by kernel_rfl) ⟨b759_5, b759_12, rfl, trivial⟩ ?_
          have h := Option.some.inj h
          subst h
          have hk : o = f42_script_Same_out false := hk
          subst hk
          exact At.fin hm ht ⟨[], [], [], [4], []⟩ [] (by kernel_rfl) trivial
        · rcases iteS h with ⟨b759_19, h⟩ | ⟨b759_19, h⟩
          · refine At.step hm ht ⟨[(5, .b false), (12, .b false), (19, .b true)], [true], [], [], []⟩ 8 ⟨[], [], [], 0⟩ [((((t13.getD t15.toNat (0, (0, (0, (0, (0, (0, []))))))).1) : Int) != ((b.getD t15.toNat (0, (0, (0, (0, (0, (0, []))))))).1)) = false, (((((t13.getD t15.toNat (0, (0, (0, (0, (0, (0, []))))))).2).1) : Int) != (((b.getD t15.toNat (0, (0, (0, (0, (0, (0, []))))))).2).1)) = false, ((((((t13.getD t15.toNat (0, (0, (0, (0, (0, (0, []))))))).2).2).1) : Int) != ((((b.getD t15.toNat (0, (0, (0, (0, (0, (0, []))))))).2).2).1)) = true, true = true] (by kernel_rfl) ⟨b759_5, b759_12, b759_19, rfl, trivial⟩ ?_
            have h := Option.some.inj h
            subst h
            have hk : o = f42_script_Same_out false := hk
            subst hk
            exact At.fin hm ht ⟨[], [], [], [4], []⟩ [] (by kernel_rfl) trivial
          · rcases iteS h with ⟨b759_26, h⟩ | ⟨b759_26, h⟩
            · refine At.step hm ht ⟨[(5, .b false), (12, .b false), (19, .b false), (26, .b true)], [true], [], [], []⟩ 8 ⟨[], [], [], 0⟩ [((((t13.getD t15.toNat (0, (0, (0, (0, (0, (0, []))))))).1) : Int) != ((b.getD t15.toNat (0, (0, (0, (0, (0, (0, []))))))).1)) = false, (((((t13.getD t15.toNat (0, (0, (0, (0, (0, (0, []))))))).2).1) : Int) != (((b.getD t15.toNat (0, (0, (0, (0, (0, (0, []))))))).2).1)) = false, ((((((t13.getD t15.toNat (0, (0, (0, (0, (0, (0, []))))))).2).2).1) : Int) != ((((b.getD t15.toNat (0, (0, (0, (0, (0, (0, []))))))).2).2).1)) = false, (((((((t13.getD t15.toNat (0, (0, (0, (0, (0, (0, []))))))).2).2).2).1) : Int) != (((((b.getD t15.toNat (0, (0, (0, (0, (0, (0, []))))))).2).2).2).1)) = true, true = true] (by kernel_rfl) ⟨b759_5, b759_12, b759_19, b759_26, rfl, trivial⟩ ?_
              have h := Option.some.inj h
              subst h
              have hk : o = f42_script_Same_out false := hk
              subst hk
              exact At.fin hm ht ⟨[], [], [], [4], []⟩ [] (by kernel_rfl) trivial
            · rcases iteS h with ⟨b759_33, h⟩ | ⟨b759_33, h⟩
              · refine At.step hm ht ⟨[(5, .b false), (12, .b false), (19, .b false), (26, .b false), (33, .b true)], [true], [], [], []⟩ 8 ⟨[], [], [], 0⟩ [((((t13.getD t15.toNat (0, (0, (0, (0, (0, (0, []))))))).1) : Int) != ((b.getD t15.toNat (0, (0, (0, (0, (0, (0, []))))))).1)) = false, (((((t13.getD t15.toNat (0, (0, (0, (0, (0, (0, []))))))).2).1) : Int) != (((b.getD t15.toNat (0, (0, (0, (0, (0, (0, []))))))).2).1)) = false, ((((((t13.getD t15.toNat (0, (0, (0, (0, (0, (0, []))))))).2).2).1) : Int) != ((((b.getD t15.toNat (0, (0, (0, (0, (0, (0, []))))))).2).2).1)) = false, (((((((t13.getD t15.toNat (0, (0, (0, (0, (0, (0, []))))))).2).2).2).1) : Int) != (((((b.getD t15.toNat (0, (0, (0, (0, (0, (0, []))))))).2).2).2).1)) = false, ((((((((t13.getD t15.toNat (0, (0, (0, (0, (0, (0, []))))))).2).2).2).2).1) : Int) != ((((((b.getD t15.toNat (0, (0, (0, (0, (0, (0, []))))))).2).2).2).2).1)) = true, true = true] (by kernel_rfl) ⟨b759_5, b759_12, b759_19, b759_26, b759_33, rfl, trivial⟩ ?_
                have h := Option.some.inj h
                subst h
                have hk : o = f42_script_Same_out false := hk
                subst hk
                exact At.fin hm ht ⟨[], [], [], [4], []⟩ [] (by kernel_rfl) trivial
              · rcases iteS h with ⟨b759_40, h⟩ | ⟨b759_40, h⟩
                · refine At.step hm ht ⟨[(5, .b false), (12, .b false), (19, .b false), (26, .b false), (33, .b false), (40, .b true)], [true], [], [], []⟩ 8 ⟨[], [], [], 0⟩ [((((t13.getD t15.toNat (0, (0, (0, (0, (0, (0, []))))))).1) : Int) != ((b.getD t15.toNat (0, (0, (0, (0, (0, (0, []))))))).1)) = false, (((((t13.getD t15.toNat (0, (0, (0, (0, (0, (0, []))))))).2).1) : Int) != (((b.getD t15.toNat (0, (0, (0, (0, (0, (0, []))))))).2).1)) = false, ((((((t13.getD t15.toNat (0, (0, (0, (0, (0, (0, []))))))).2).2).1) : Int) != ((((b.getD t15.toNat (0, (0, (0, (0, (0, (0, []))))))).2).2).1)) = false, (((((((t13.getD t15.toNat (0, (0, (0, (0, (0, (0, []))))))).2).2).2).1) : Int) != (((((b.getD t15.toNat (0, (0, (0, (0, (0, (0, []))))))).2).2).2).1)) = false, ((((((((t13.getD t15.toNat (0, (0, (0, (0, (0, (0, []))))))).2).2).2).2).1) : Int) != ((((((b.getD t15.toNat (0, (0, (0, (0, (0, (0, []))))))).2).2).2).2).1)) = false, (((((((((t13.getD t15.toNat (0, (0, (0, (0, (0, (0, []))))))).2).2).2).2).2).1) : Int) != (((((((b.getD t15.toNat (0, (0, (0, (0, (0, (0, []))))))).2).2).2).2).2).1)) = true, true = true] (by kernel_rfl) ⟨b759_5, b759_12, b759_19, b759_26, b759_33, b759_40, rfl, trivial⟩ ?_
                  have h := Option.some.inj h
                  subst h
                  have hk : o = f42_script_Same_out false := hk
                  subst hk
                  exact At.fin hm ht ⟨[], [], [], [4], []⟩ [] (by kernel_rfl) trivial
                · rcases iteS h with ⟨b759_e0, h⟩ | ⟨b759_e0, h⟩
                  · refine At.step hm ht ⟨[(5, .b false), (12, .b false), (19, .b false), (26, .b false), (33, .b false), (40, .b false)], [true], [], [], []⟩ 8 ⟨[], [], [], 0⟩ [((((t13.getD t15.toNat (0, (0, (0, (0, (0, (0, []))))))).1) : Int) != ((b.getD t15.toNat (0, (0, (0, (0, (0, (0, []))))))).1)) = false, (((((t13.getD t15.toNat (0, (0, (0, (0, (0, (0, []))))))).2).1) : Int) != (((b.getD t15.toNat (0, (0, (0, (0, (0, (0, []))))))).2).1)) = false, ((((((t13.getD t15.toNat (0, (0, (0, (0, (0, (0, []))))))).2).2).1) : Int) != ((((b.getD t15.toNat (0, (0, (0, (0, (0, (0, []))))))).2).2).1)) = false, (((((((t13.getD t15.toNat (0, (0, (0, (0, (0, (0, []))))))).2).2).2).1) : Int) != (((((b.getD t15.toNat (0, (0, (0, (0, (0, (0, []))))))).2).2).2).1)) = false, ((((((((t13.getD t15.toNat (0, (0, (0, (0, (0, (0, []))))))).2).2).2).2).1) : Int) != ((((((b.getD t15.toNat (0, (0, (0, (0, (0, (0, []))))))).2).2).2).2).1)) = false, (((((((((t13.getD t15.toNat (0, (0, (0, (0, (0, (0, []))))))).2).2).2).2).2).1) : Int) != (((((((b.getD t15.toNat (0, (0, (0, (0, (0, (0, []))))))).2).2).2).2).2).1)) = false, (!((strOfNums (((((((t13.getD t15.toNat (0, (0, (0, (0, (0, (0, []))))))).2).2).2).2).2).2)).toList == (strOfNums (((((((b.getD t15.toNat (0, (0, (0, (0, (0, (0, []))))))).2).2).2).2).2).2)).toList)) = true] (by kernel_rfl) ⟨b759_5, b759_12, b759_19, b759_26, b759_33, b759_40, b759_e0, trivial⟩ ?_
                    have h := Option.some.inj h
                    subst h
                    have hk : o = f42_script_Same_out false := hk
                    subst hk
                    exact At.fin hm ht ⟨[], [], [], [4], []⟩ [] (by kernel_rfl) trivial
                  · refine At.step hm ht ⟨[(5, .b false), (12, .b false), (19, .b false), (26, .b false), (33, .b false), (40, .b false)], [false], [], [1, 13, 14, 15], []⟩ 9 ⟨[(1, oc (.d (.sl (.pair (.int .i64) (.pair (.int .i64) (.pair (.int .i64) (.pair (.int .i64) (.pair (.int .i64) (.pair (.int .i64) (.slice (.int .u8)))))))) b))), (13, oc (.d (.sl (.pair (.int .i64) (.pair (.int .i64) (.pair (.int .i64) (.pair (.int .i64) (.pair (.int .i64) (.pair (.int .i64) (.slice (.int .u8)))))))) t13))), (14, oc (zi t14)), (15, oc (zi t15))], [], [], 0⟩ [((((t13.getD t15.toNat (0, (0, (0, (0, (0, (0, []))))))).1) : Int) != ((b.getD t15.toNat (0, (0, (0, (0, (0, (0, []))))))).1)) = false, (((((t13.getD t15.toNat (0, (0, (0, (0, (0, (0, []))))))).2).1) : Int) != (((b.getD t15.toNat (0, (0, (0, (0, (0, (0, []))))))).2).1)) = false, ((((((t13.getD t15.toNat (0, (0, (0, (0, (0, (0, []))))))).2).2).1) : Int) != ((((b.getD t15.toNat (0, (0, (0, (0, (0, (0, []))))))).2).2).1)) = false, (((((((t13.getD t15.toNat (0, (0, (0, (0, (0, (0, []))))))).2).2).2).1) : Int) != (((((b.getD t15.toNat (0, (0, (0, (0, (0, (0, []))))))).2).2).2).1)) = false, ((((((((t13.getD t15.toNat (0, (0, (0, (0, (0, (0, []))))))).2).2).2).2).1) : Int) != ((((((b.getD t15.toNat (0, (0, (0, (0, (0, (0, []))))))).2).2).2).2).1)) = false, (((((((((t13.getD t15.toNat (0, (0, (0, (0, (0, (0, []))))))).2).2).2).2).2).1) : Int) != (((((((b.getD t15.toNat (0, (0, (0, (0, (0, (0, []))))))).2).2).2).2).2).1)) = false, (!((strOfNums (((((((t13.getD t15.toNat (0, (0, (0, (0, (0, (0, []))))))).2).2).2).2).2).2)).toList == (strOfNums (((((((b.getD t15.toNat (0, (0, (0, (0, (0, (0, []))))))).2).2).2).2).2).2)).toList)) = false] (by kernel_rfl) ⟨b759_5, b759_12, b759_19, b759_26, b759_33, b759_40, b759_e0, trivial⟩ ?_
                    refine At.step hm ht ⟨[], [], [], [1, 13, 14, 15], []⟩ 4 ⟨[(1, oc (.d (.sl (.pair (.int .i64) (.pair (.int .i64) (.pair (.int .i64) (.pair (.int .i64) (.pair (.int .i64) (.pair (.int .i64) (.slice (.int .u8)))))))) b))), (13, oc (.d (.sl (.pair (.int .i64) (.pair (.int .i64) (.pair (.int .i64) (.pair (.int .i64) (.pair (.int .i64) (.pair (.int .i64) (.slice (.int .u8)))))))) t13))), (14, oc (zi t14)), (15, oc (zi (IntKind.wrap .i64 (t15 + 1))))], [], [], 0⟩ [] (by kernel_rfl) trivial ?_
                    exact ih b t13 t14 (IntKind.wrap .i64 (t15 + 1)) w h o hk
    · refine At.step hm ht ⟨[], [false], [], [], []⟩ 10 ⟨[], [], [], 0⟩ [(decide ((t15 : Int) < t14)) = false] (by kernel_rfl) ⟨b756_e0, trivial⟩ ?_
      have h := Option.some.inj h
      subst h
      exact hk
def f42_script_Same (n : Nat) (a : List (Int × Int × Int × Int × Int × Int × List Int)) (b : List (Int × Int × Int × Int × Int × Int × List Int)) : Option (Bool) :=
  if ((((a.length : Nat) : Int) : Int) != ((b.length : Nat) : Int)) = true then
    some false
  else
    (f42_script_Same_L4 n b a ((a.length : Nat) : Int) 0).bind fun w768 =>
    match w768 with
    | .inl e769 =>
      some e769
    | .inr e770 =>
      some true
theorem f42_script_Same_ok (n : Nat) (a : List (Int × Int × Int × Int × Int × Int × List Int)) (b : List (Int × Int × Int × Int × Int × Int × List Int)) (r : Bool) (h : f42_script_Same n a b = some r) : FnOK Tryd.prog 42 (f42_script_Same_in a b) (f42_script_Same_out r) := by
  unfold f42_script_Same at h
  refine At.fn (r := 0) Tryd.func42 rfl (by kernel_rfl) rfl rfl (by kernel_rfl) ?_
  show At Tryd.prog Tryd.f42 0 0 ⟨[(0, oc (.d (.sl (.pair (.int .i64) (.pair (.int .i64) (.pair (.int .i64) (.pair (.int .i64) (.pair (.int .i64) (.pair (.int .i64) (.slice (.int .u8)))))))) a))), (1, oc (.d (.sl (.pair (.int .i64) (.pair (.int .i64) (.pair (.int .i64) (.pair (.int .i64) (.pair (.int .i64) (.pair (.int .i64) (.slice (.int .u8)))))))) b)))], [], [], 0⟩ _
  refine At.step hm ht ⟨[], [], [], [0, 1], []⟩ 1 ⟨[(0, oc (.d (.sl (.pair (.int .i64) (.pair (.int .i64) (.pair (.int .i64) (.pair (.int .i64) (.pair (.int .i64) (.pair (.int .i64) (.slice (.int .u8)))))))) a))), (1, oc (.d (.sl (.pair (.int .i64) (.pair (.int .i64) (.pair (.int .i64) (.pair (.int .i64) (.pair (.int .i64) (.pair (.int .i64) (.slice (.int .u8)))))))) b)))], [], [], 0⟩ [] (by kernel_rfl) trivial ?_
  rcases iteS h with ⟨b753_e0, h⟩ | ⟨b753_e0, h⟩
  · refine At.step hm ht ⟨[], [true], [], [], []⟩ 2 ⟨[], [], [], 0⟩ [((((a.length : Nat) : Int) : Int) != ((b.length : Nat) : Int)) = true] (by kernel_rfl) ⟨b753_e0, trivial⟩ ?_
    have h := Option.some.inj h
    subst h
    exact At.fin hm ht ⟨[], [], [], [4], []⟩ [] (by kernel_rfl) trivial
  · refine At.step hm ht ⟨[], [false], [], [0, 1], []⟩ 3 ⟨[(0, oc (.d (.sl (.pair (.int .i64) (.pair (.int .i64) (.pair (.int .i64) (.pair (.int .i64) (.pair (.int .i64) (.pair (.int .i64) (.slice (.int .u8)))))))) a))), (1, oc (.d (.sl (.pair (.int .i64) (.pair (.int .i64) (.pair (.int .i64) (.pair (.int .i64) (.pair (.int .i64) (.pair (.int .i64) (.slice (.int .u8)))))))) b)))], [], [], 0⟩ [((((a.length : Nat) : Int) : Int) != ((b.length : Nat) : Int)) = false] (by kernel_rfl) ⟨b753_e0, trivial⟩ ?_
    refine At.step hm ht ⟨[], [], [], [1, 13, 14, 15], []⟩ 4 ⟨[(1, oc (.d (.sl (.pair (.int .i64) (.pair (.int .i64) (.pair (.int .i64) (.pair (.int .i64) (.pair (.int .i64) (.pair (.int .i64) (.slice (.int .u8)))))))) b))), (13, oc (.d (.sl (.pair (.int .i64) (.pair (.int .i64) (.pair (.int .i64) (.pair (.int .i64) (.pair (.int .i64) (.pair (.int .i64) (.slice (.int .u8)))))))) a))), (14, oc (zi ((a.length : Nat) : Int))), (15, oc (zi 0))], [], [], 0⟩ [] (by kernel_rfl) trivial ?_
    obtain ⟨w768, cw768, h⟩ := bindS h
    refine f42_script_Same_L4_ok n b a ((a.length : Nat) : Int) 0 w768 cw768 _ ?_
    rcases w768 with e769 | e770
    · have h := Option.some.inj h
      subst h
      rfl
    · show At Tryd.prog Tryd.f42 0 10 ⟨[], [], [], 0⟩ _
      have h := Option.some.inj h
      subst h
      exact At.fin hm ht ⟨[], [], [], [4], []⟩ [] (by kernel_rfl) trivial
/-! brougham/script.part -/
def f71_script_part_v3_in (c : Int) (s_0 : Int) (s_1 : Int) (s_2 : Int) (s_3 : Int) (s_4 : Int) (s_5 : Int) (s_6 : List Int) : Inn := ⟨[.c (.ptr 0 0), .c (.d (.int .u8 c))], [], [(0, [zi s_0, zi s_1, zi s_2, zi s_3, zi s_4, zi s_5, .d (.sl (.int .u8) s_6)])], 1⟩
def f71_script_part_v3_out (r : (Int × Int × Int × Int × Int × Int × List Int) ⊕ (Int × Int × Int × Int × Int × Int × List Int) ⊕ (Int × Int × Int × Int × Int × Int × List Int) ⊕ (Int × Int × Int × Int × Int × Int × List Int) ⊕ (Int × Int × Int × Int × Int × Int × List Int) ⊕ (Int × Int × Int × Int × Int × Int × List Int)) : Out := match r with
  | .inl e => ⟨oc (.ptr 0 1), [], [(0, [zi e.1, zi e.2.1, zi e.2.2.1, zi e.2.2.2.1, zi e.2.2.2.2.1, zi e.2.2.2.2.2.1, .d (.sl (.int .u8) e.2.2.2.2.2.2)])], 1⟩
  | .inr (.inl e) => ⟨oc (.ptr 0 2), [], [(0, [zi e.1, zi e.2.1, zi e.2.2.1, zi e.2.2.2.1, zi e.2.2.2.2.1, zi e.2.2.2.2.2.1, .d (.sl (.int .u8) e.2.2.2.2.2.2)])], 1⟩
  | .inr (.inr (.inl e)) => ⟨oc (.ptr 0 3), [], [(0, [zi e.1, zi e.2.1, zi e.2.2.1, zi e.2.2.2.1, zi e.2.2.2.2.1, zi e.2.2.2.2.2.1, .d (.sl (.int .u8) e.2.2.2.2.2.2)])], 1⟩
  | .inr (.inr (.inr (.inl e))) => ⟨oc (.ptr 0 4), [], [(0, [zi e.1, zi e.2.1, zi e.2.2.1, zi e.2.2.2.1, zi e.2.2.2.2.1, zi e.2.2.2.2.2.1, .d (.sl (.int .u8) e.2.2.2.2.2.2)])], 1⟩
  | .inr (.inr (.inr (.inr (.inl e)))) => ⟨oc (.ptr 0 5), [], [(0, [zi e.1, zi e.2.1, zi e.2.2.1, zi e.2.2.2.1, zi e.2.2.2.2.1, zi e.2.2.2.2.2.1, .d (.sl (.int .u8) e.2.2.2.2.2.2)])], 1⟩
  | .inr (.inr (.inr (.inr (.inr e)))) => ⟨oc (.d (.nilP)), [], [(0, [zi e.1, zi e.2.1, zi e.2.2.1, zi e.2.2.2.1, zi e.2.2.2.2.1, zi e.2.2.2.2.2.1, .d (.sl (.int .u8) e.2.2.2.2.2.2)])], 1⟩
def f71_script_part_v3 (c : Int) (s_0 : Int) (s_1 : Int) (s_2 : Int) (s_3 : Int) (s_4 : Int) (s_5 : Int) (s_6 : List Int) : Option ((Int × Int × Int × Int × Int × Int × List Int) ⊕ (Int × Int × Int × Int × Int × Int × List Int) ⊕ (Int × Int × Int × Int × Int × Int × List Int) ⊕ (Int × Int × Int × Int × Int × Int × List Int) ⊕ (Int × Int × Int × Int × Int × Int × List Int) ⊕ (Int × Int × Int × Int × Int × Int × List Int)) :=
  if ((c : Int) == 104) = true then
    some (.inl (s_0, s_1, s_2, s_3, s_4, s_5, s_6))
  else
    if ((c : Int) == 110) = true then
      some (.inr (.inl (s_0, s_1, s_2, s_3, s_4, s_5, s_6)))
    else
      if ((c : Int) == 112) = true then
        some (.inr (.inr (.inl (s_0, s_1, s_2, s_3, s_4, s_5, s_6))))
      else
        if ((c : Int) == 119) = true then
          some (.inr (.inr (.inr (.inl (s_0, s_1, s_2, s_3, s_4, s_5, s_6)))))
        else
          if ((c : Int) == 107) = true then
            some (.inr (.inr (.inr (.inr (.inl (s_0, s_1, s_2, s_3, s_4, s_5, s_6))))))
          else
            some (.inr (.inr (.inr (.inr (.inr ((s_0, s_1, s_2, s_3, s_4, s_5, s_6)))))))
theorem f71_script_part_v3_ok (c : Int) (s_0 : Int) (s_1 : Int) (s_2 : Int) (s_3 : Int) (s_4 : Int) (s_5 : Int) (s_6 : List Int) (r : (Int × Int × Int × Int × Int × Int × List Int) ⊕ (Int × Int × Int × Int × Int × Int × List Int) ⊕ (Int × Int × Int × Int × Int × Int × List Int) ⊕ (Int × Int × Int × Int × Int × Int × List Int) ⊕ (Int × Int × Int × Int × Int × Int × List Int) ⊕ (Int × Int × Int × Int × Int × Int × List Int)) (h : f71_script_part_v3 c s_0 s_1 s_2 s_3 s_4 s_5 s_6 = some r) : FnOK Tryd.prog 71 (f71_script_part_v3_in c s_0 s_1 s_2 s_3 s_4 s_5 s_6) (f71_script_part_v3_out r) := by
  unfold f71_script_part_v3 at h
  refine At.fn (r := 0) Tryd.func71 rfl (by kernel_rfl) rfl (by rcases r with _ | _ | _ | _ | _ | _ <;> rfl) (by kernel_rfl) ?_
  show At Tryd.prog Tryd.f71 1 0 ⟨[(0, oc (.ptr 0 0)), (1, oc (.d (.int .u8 c)))], [], [(0, [zi s_0, zi s_1, zi s_2, zi s_3, zi s_4, zi s_5, .d (.sl (.int .u8) s_6)])], 1⟩ _
  refine At.step hm ht ⟨[], [], [], [0, 1], [0]⟩ 1 ⟨[(0, oc (.ptr 0 0)), (1, oc (.d (.int .u8 c)))], [], [(0, [zi s_0, zi s_1, zi s_2, zi s_3, zi s_4, zi s_5, .d (.sl (.int .u8) s_6)])], 1⟩ [] (by kernel_rfl) trivial ?_
  refine At.step hm ht ⟨[], [], [], [0, 5], [0]⟩ 2 ⟨[(0, oc (.ptr 0 0)), (5, oc (.d (.int .u8 c)))], [], [(0, [zi s_0, zi s_1, zi s_2, zi s_3, zi s_4, zi s_5, .d (.sl (.int .u8) s_6)])], 1⟩ [] (by kernel_rfl) trivial ?_
  rcases iteS h with ⟨b787_e0, h⟩ | ⟨b787_e0, h⟩
  · refine At.step hm ht ⟨[], [true], [], [0], [0]⟩ 3 ⟨[(0, oc (.ptr 0 0))], [], [(0, [zi s_0, zi s_1, zi s_2, zi s_3, zi s_4, zi s_5, .d (.sl (.int .u8) s_6)])], 1⟩ [((c : Int) == 104) = true] (by kernel_rfl) ⟨b787_e0, trivial⟩ ?_
    have h := Option.some.inj h
    subst h
    exact At.fin hm ht ⟨[], [], [], [4], [0]⟩ [] (by kernel_rfl) trivial
  · refine At.step hm ht ⟨[], [false], [], [0, 5], [0]⟩ 4 ⟨[(0, oc (.ptr 0 0)), (5, oc (.d (.int .u8 c)))], [], [(0, [zi s_0, zi s_1, zi s_2, zi s_3, zi s_4, zi s_5, .d (.sl (.int .u8) s_6)])], 1⟩ [((c : Int) == 104) = false] (by kernel_rfl) ⟨b787_e0, trivial⟩ ?_
    rcases iteS h with ⟨b789_e0, h⟩ | ⟨b789_e0, h⟩
    · refine At.step hm ht ⟨[], [true], [], [0], [0]⟩ 5 ⟨[(0, oc (.ptr 0 0))], [], [(0, [zi s_0, zi s_1, zi s_2, zi s_3, zi s_4, zi s_5, .d (.sl (.int .u8) s_6)])], 1⟩ [((c : Int) == 110) = true] (by kernel_rfl) ⟨b789_e0, trivial⟩ ?_
      have h := Option.some.inj h
      subst h
      exact At.fin hm ht ⟨[], [], [], [4], [0]⟩ [] (by kernel_rfl) trivial
    · refine At.step hm ht ⟨[], [false], [], [0, 5], [0]⟩ 6 ⟨[(0, oc (.ptr 0 0)), (5, oc (.d (.int .u8 c)))], [], [(0, [zi s_0, zi s_1, zi s_2, zi s_3, zi s_4, zi s_5, .d (.sl (.int .u8) s_6)])], 1⟩ [((c : Int) == 110) = false] (by kernel_rfl) ⟨b789_e0, trivial⟩ ?_
      rcases iteS h with ⟨b791_e0, h⟩ | ⟨b791_e0, h⟩
      · refine At.step hm ht ⟨[], [true], [], [0], [0]⟩ 7 ⟨[(0, oc (.ptr 0 0))], [], [(0, [zi s_0, zi s_1, zi s_2, zi s_3, zi s_4, zi s_5, .d (.sl (.int .u8) s_6)])], 1⟩ [((c : Int) == 112) = true] (by kernel_rfl) ⟨b791_e0, trivial⟩ ?_
        have h := Option.some.inj h
        subst h
        exact At.fin hm ht ⟨[], [], [], [4], [0]⟩ [] (by kernel_rfl) trivial
      · refine At.step hm ht ⟨[], [false], [], [0, 5], [0]⟩ 8 ⟨[(0, oc (.ptr 0 0)), (5, oc (.d (.int .u8 c)))], [], [(0, [zi s_0, zi s_1, zi s_2, zi s_3, zi s_4, zi s_5, .d (.sl (.int .u8) s_6)])], 1⟩ [((c : Int) == 112) = false] (by kernel_rfl) ⟨b791_e0, trivial⟩ ?_
        rcases iteS h with ⟨b793_e0, h⟩ | ⟨b793_e0, h⟩
        · refine At.step hm ht ⟨[], [true], [], [0], [0]⟩ 9 ⟨[(0, oc (.ptr 0 0))], [], [(0, [zi s_0, zi s_1, zi s_2, zi s_3, zi s_4, zi s_5, .d (.sl (.int .u8) s_6)])], 1⟩ [((c : Int) == 119) = true] (by kernel_rfl) ⟨b793_e0, trivial⟩ ?_
          have h := Option.some.inj h
          subst h
          exact At.fin hm ht ⟨[], [], [], [4], [0]⟩ [] (by kernel_rfl) trivial
        · refine At.step hm ht ⟨[], [false], [], [0, 5], [0]⟩ 10 ⟨[(0, oc (.ptr 0 0)), (5, oc (.d (.int .u8 c)))], [], [(0, [zi s_0, zi s_1, zi s_2, zi s_3, zi s_4, zi s_5, .d (.sl (.int .u8) s_6)])], 1⟩ [((c : Int) == 119) = false] (by kernel_rfl) ⟨b793_e0, trivial⟩ ?_
          rcases iteS h with ⟨b795_e0, h⟩ | ⟨b795_e0, h⟩
          · refine At.step hm ht ⟨[], [true], [], [0], [0]⟩ 11 ⟨[(0, oc (.ptr 0 0))], [], [(0, [zi s_0, zi s_1, zi s_2, zi s_3, zi s_4, zi s_5, .d (.sl (.int .u8) s_6)])], 1⟩ [((c : Int) == 107) = true] (by kernel_rfl) ⟨b795_e0, trivial⟩ ?_
            have h := Option.some.inj h
            subst h
            exact At.fin hm ht ⟨[], [], [], [4], [0]⟩ [] (by kernel_rfl) trivial
          · refine At.step hm ht ⟨[], [false], [], [], [0]⟩ 12 ⟨[], [], [(0, [zi s_0, zi s_1, zi s_2, zi s_3, zi s_4, zi s_5, .d (.sl (.int .u8) s_6)])], 1⟩ [((c : Int) == 107) = false] (by kernel_rfl) ⟨b795_e0, trivial⟩ ?_
            have h := Option.some.inj h
            subst h
            exact At.fin hm ht ⟨[], [], [], [4], [0]⟩ [] (by kernel_rfl) trivial
/-! brougham/script.Right -/
def f43_script_Right_in (s_0 : Int) (s_1 : Int) (s_2 : Int) (s_3 : Int) (s_4 : Int) (s_5 : Int) (s_6 : List Int) : Inn := ⟨[.agg [zi s_0, zi s_1, zi s_2, zi s_3, zi s_4, zi s_5, .d (.sl (.int .u8) s_6)]], [], [], 0⟩
def f43_script_Right_out (r : Bool) : Out := ⟨oc (.d (.bool r)), [], [], 0⟩
def f43_script_Right_L5 : Nat → ByteArray → (List Int) → Int → Int → Int → Int → Int → Int → Int → Int → (List Int) → Option ((Bool) ⊕ (ByteArray × Int × Int × Int × Int × Int × Int × List Int))
  | 0, _, _, _, _, _, _, _, _, _, _, _ => none
  | n + 1, names, t21, t22, t23, s_0, s_1, s_2, s_3, s_4, s_5, s_6 =>
    if (decide ((t23 : Int) < t22)) = true then
      if (0 : Int) ≤ t23 ∧ t23 < (((t21).length : Nat) : Int) then
      (f71_script_part_v3 (t21.getD t23.toNat 0) s_0 s_1 s_2 s_3 s_4 s_5 s_6).bind fun r784_0 =>
      match r784_0 with
      | .inl er784_0_0 =>
        if (decide ((er784_0_0.2.1 : Int) < 0)) = true then
          some (.inl false)
        else
          if (decide ((er784_0_0.2.1 : Int) ≥ 2147483648)) = true then
            some (.inl false)
          else
            if ((er784_0_0.2.1 : Int) != 0) = true then
              (f72_strings_IndexByte names (t21.getD t23.toNat 0)).bind fun r798_0 =>
              if (decide ((r798_0 : Int) < 0)) = true then
                some (.inl false)
              else
                f43_script_Right_L5 n names t21 t22 (IntKind.wrap .i64 (t23 + 1)) er784_0_0.1 er784_0_0.2.1 er784_0_0.2.2.1 er784_0_0.2.2.2.1 er784_0_0.2.2.2.2.1 er784_0_0.2.2.2.2.2.1 er784_0_0.2.2.2.2.2.2
            else
              f43_script_Right_L5 n names t21 t22 (IntKind.wrap .i64 (t23 + 1)) er784_0_0.1 er784_0_0.2.1 er784_0_0.2.2.1 er784_0_0.2.2.2.1 er784_0_0.2.2.2.2.1 er784_0_0.2.2.2.2.2.1 er784_0_0.2.2.2.2.2.2
      | .inr (.inl er784_0_1) =>
        if (decide ((er784_0_1.2.2.1 : Int) < 0)) = true then
          some (.inl false)
        else
          if (decide ((er784_0_1.2.2.1 : Int) ≥ 2147483648)) = true then
            some (.inl false)
          else
            if ((er784_0_1.2.2.1 : Int) != 0) = true then
              (f72_strings_IndexByte names (t21.getD t23.toNat 0)).bind fun r804_0 =>
              if (decide ((r804_0 : Int) < 0)) = true then
                some (.inl false)
              else
                f43_script_Right_L5 n names t21 t22 (IntKind.wrap .i64 (t23 + 1)) er784_0_1.1 er784_0_1.2.1 er784_0_1.2.2.1 er784_0_1.2.2.2.1 er784_0_1.2.2.2.2.1 er784_0_1.2.2.2.2.2.1 er784_0_1.2.2.2.2.2.2
            else
              f43_script_Right_L5 n names t21 t22 (IntKind.wrap .i64 (t23 + 1)) er784_0_1.1 er784_0_1.2.1 er784_0_1.2.2.1 er784_0_1.2.2.2.1 er784_0_1.2.2.2.2.1 er784_0_1.2.2.2.2.2.1 er784_0_1.2.2.2.2.2.2
      | .inr (.inr (.inl er784_0_2)) =>
        if (decide ((er784_0_2.2.2.2.1 : Int) < 0)) = true then
          some (.inl false)
        else
          if (decide ((er784_0_2.2.2.2.1 : Int) ≥ 2147483648)) = true then
            some (.inl false)
          else
            if ((er784_0_2.2.2.2.1 : Int) != 0) = true then
              (f72_strings_IndexByte names (t21.getD t23.toNat 0)).bind fun r810_0 =>
              if (decide ((r810_0 : Int) < 0)) = true then
                some (.inl false)
              else
                f43_script_Right_L5 n names t21 t22 (IntKind.wrap .i64 (t23 + 1)) er784_0_2.1 er784_0_2.2.1 er784_0_2.2.2.1 er784_0_2.2.2.2.1 er784_0_2.2.2.2.2.1 er784_0_2.2.2.2.2.2.1 er784_0_2.2.2.2.2.2.2
            else
              f43_script_Right_L5 n names t21 t22 (IntKind.wrap .i64 (t23 + 1)) er784_0_2.1 er784_0_2.2.1 er784_0_2.2.2.1 er784_0_2.2.2.2.1 er784_0_2.2.2.2.2.1 er784_0_2.2.2.2.2.2.1 er784_0_2.2.2.2.2.2.2
      | .inr (.inr (.inr (.inl er784_0_3))) =>
        if (decide ((er784_0_3.2.2.2.2.1 : Int) < 0)) = true then
          some (.inl false)
        else
          if (decide ((er784_0_3.2.2.2.2.1 : Int) ≥ 2147483648)) = true then
            some (.inl false)
          else
            if ((er784_0_3.2.2.2.2.1 : Int) != 0) = true then
              (f72_strings_IndexByte names (t21.getD t23.toNat 0)).bind fun r816_0 =>
              if (decide ((r816_0 : Int) < 0)) = true then
                some (.inl false)
              else
                f43_script_Right_L5 n names t21 t22 (IntKind.wrap .i64 (t23 + 1)) er784_0_3.1 er784_0_3.2.1 er784_0_3.2.2.1 er784_0_3.2.2.2.1 er784_0_3.2.2.2.2.1 er784_0_3.2.2.2.2.2.1 er784_0_3.2.2.2.2.2.2
            else
              f43_script_Right_L5 n names t21 t22 (IntKind.wrap .i64 (t23 + 1)) er784_0_3.1 er784_0_3.2.1 er784_0_3.2.2.1 er784_0_3.2.2.2.1 er784_0_3.2.2.2.2.1 er784_0_3.2.2.2.2.2.1 er784_0_3.2.2.2.2.2.2
      | .inr (.inr (.inr (.inr (.inl er784_0_4)))) =>
        if (decide ((er784_0_4.2.2.2.2.2.1 : Int) < 0)) = true then
          some (.inl false)
        else
          if (decide ((er784_0_4.2.2.2.2.2.1 : Int) ≥ 2147483648)) = true then
            some (.inl false)
          else
            if ((er784_0_4.2.2.2.2.2.1 : Int) != 0) = true then
              (f72_strings_IndexByte names (t21.getD t23.toNat 0)).bind fun r822_0 =>
              if (decide ((r822_0 : Int) < 0)) = true then
                some (.inl false)
              else
                f43_script_Right_L5 n names t21 t22 (IntKind.wrap .i64 (t23 + 1)) er784_0_4.1 er784_0_4.2.1 er784_0_4.2.2.1 er784_0_4.2.2.2.1 er784_0_4.2.2.2.2.1 er784_0_4.2.2.2.2.2.1 er784_0_4.2.2.2.2.2.2
            else
              f43_script_Right_L5 n names t21 t22 (IntKind.wrap .i64 (t23 + 1)) er784_0_4.1 er784_0_4.2.1 er784_0_4.2.2.1 er784_0_4.2.2.2.1 er784_0_4.2.2.2.2.1 er784_0_4.2.2.2.2.2.1 er784_0_4.2.2.2.2.2.2
      | .inr (.inr (.inr (.inr (.inr er784_0_5)))) =>
        none
      else none
    else
      some (.inr ((names, s_0, s_1, s_2, s_3, s_4, s_5, s_6)))
def f43_script_Right_L5_k (w : (Bool) ⊕ (ByteArray × Int × Int × Int × Int × Int × Int × List Int)) (o : Out) : Prop := match w with
  | .inl e => o = f43_script_Right_out e
  | .inr e => At Tryd.prog Tryd.f43 0 11 ⟨[(1, oc (.ptr 0 0)), (3, oc (.d (.str e.1)))], [], [(0, [zi e.2.1, zi e.2.2.1, zi e.2.2.2.1, zi e.2.2.2.2.1, zi e.2.2.2.2.2.1, zi e.2.2.2.2.2.2.1, .d (.sl (.int .u8) e.2.2.2.2.2.2.2)])], 1⟩ o
theorem f43_script_Right_L5_ok (n : Nat) : ∀ (names : ByteArray) (t21 : List Int) (t22 : Int) (t23 : Int) (s_0 : Int) (s_1 : Int) (s_2 : Int) (s_3 : Int) (s_4 : Int) (s_5 : Int) (s_6 : List Int) (w : (Bool) ⊕ (ByteArray × Int × Int × Int × Int × Int × Int × List Int)) (h : f43_script_Right_L5 n names t21 t22 t23 s_0 s_1 s_2 s_3 s_4 s_5 s_6 = some w) (o : Out) (hk : f43_script_Right_L5_k w o), At Tryd.prog Tryd.f43 0 5 ⟨[(1, oc (.ptr 0 0)), (3, oc (.d (.str names))), (21, oc (.own 1 (.int .u8) t21)), (22, oc (zi t22)), (23, oc (zi t23))], [(1, some ⟨5, 1⟩)], [(0, [zi s_0, zi s_1, zi s_2, zi s_3, zi s_4, zi s_5, .d (.sl (.int .u8) s_6)])], 2⟩ o := by
  induction n with
  | zero => intro names t21 t22 t23 s_0 s_1 s_2 s_3 s_4 s_5 s_6 w h; rw [f43_script_Right_L5] at h; cases h
  | succ n ih =>
    intro names t21 t22 t23 s_0 s_1 s_2 s_3 s_4 s_5 s_6 w h o hk
    rw [f43_script_Right_L5] at h
    rcases iteS h with ⟨b782_e0, h⟩ | ⟨b782_e0, h⟩
    · refine At.step hm ht ⟨[], [true], [], [1, 3, 21, 22, 23], [0, 1]⟩ 6 ⟨[(1, oc (.ptr 0 0)), (3, oc (.d (.str names))), (21, oc (.own 1 (.int .u8) t21)), (22, oc (zi t22)), (23, oc (zi t23))], [(1, some ⟨5, 1⟩)], [(0, [zi s_0, zi s_1, zi s_2, zi s_3, zi s_4, zi s_5, .d (.sl (.int .u8) s_6)])], 2⟩ [(decide ((t23 : Int) < t22)) = true] (by kernel_rfl) ⟨b782_e0, trivial⟩ ?_
      obtain ⟨g783_0, h⟩ := ifS h
      refine At.step hm ht ⟨[], [], [], [1, 3, 5, 21, 22, 23], [0, 1]⟩ 7 ⟨[(1, oc (.ptr 0 0)), (3, oc (.d (.str names))), (5, oc (.d (.int .u8 (t21.getD t23.toNat 0)))), (21, oc (.own 1 (.int .u8) t21)), (22, oc (zi t22)), (23, oc (zi t23))], [(1, some ⟨5, 1⟩)], [(0, [zi s_0, zi s_1, zi s_2, zi s_3, zi s_4, zi s_5, .d (.sl (.int .u8) s_6)])], 2⟩ [(0 : Int) ≤ t23 ∧ t23 < (((t21).length : Nat) : Int)] (by kernel_rfl) ⟨g783_0, trivial⟩ ?_
      obtain ⟨r784_0, cr784_0, h⟩ := bindS h
      rcases r784_0 with er784_0_0 | er784_0_1 | er784_0_2 | er784_0_3 | er784_0_4 | er784_0_5
      · refine At.step hm ht ⟨[(1, .call [0] [] (f71_script_part_v3_out (.inl er784_0_0)))], [], [], [1, 3, 5, 6, 21, 22, 23], [0, 1]⟩ 8 ⟨[(1, oc (.ptr 0 0)), (3, oc (.d (.str names))), (5, oc (.d (.int .u8 (t21.getD t23.toNat 0)))), (6, oc (zi er784_0_0.2.1)), (21, oc (.own 1 (.int .u8) t21)), (22, oc (zi t22)), (23, oc (zi t23))], [(1, some ⟨5, 1⟩)], [(0, [zi er784_0_0.1, zi er784_0_0.2.1, zi er784_0_0.2.2.1, zi er784_0_0.2.2.2.1, zi er784_0_0.2.2.2.2.1, zi er784_0_0.2.2.2.2.2.1, .d (.sl (.int .u8) er784_0_0.2.2.2.2.2.2)])], 2⟩ [FnOK Tryd.prog 71 (f71_script_part_v3_in (t21.getD t23.toNat 0) s_0 s_1 s_2 s_3 s_4 s_5 s_6) (f71_script_part_v3_out (.inl er784_0_0))] (by kernel_rfl) ⟨(f71_script_part_v3_ok (t21.getD t23.toNat 0) s_0 s_1 s_2 s_3 s_4 s_5 s_6 (.inl er784_0_0) cr784_0), trivial⟩ ?_
        rcases iteS h with ⟨b798_2, h⟩ | ⟨b798_2, h⟩
        · refine At.step hm ht ⟨[(2, .b true)], [true], [], [], []⟩ 9 ⟨[], [], [], 0⟩ [(decide ((er784_0_0.2.1 : Int) < 0)) = true, true = true] (by kernel_rfl) ⟨b798_2, rfl, trivial⟩ ?_
          have h := Option.some.inj h
          subst h
          have hk : o = f43_script_Right_out false := hk
          subst hk
          exact At.fin hm ht ⟨[], [], [], [2], []⟩ [] (by kernel_rfl) trivial
        · rcases iteS h with ⟨b798_6, h⟩ | ⟨b798_6, h⟩
          · refine At.step hm ht ⟨[(2, .b false), (6, .b true)], [true], [], [], []⟩ 9 ⟨[], [], [], 0⟩ [(decide ((er784_0_0.2.1 : Int) < 0)) = false, (decide ((er784_0_0.2.1 : Int) ≥ 2147483648)) = true, true = true] (by kernel_rfl) ⟨b798_2, b798_6, rfl, trivial⟩ ?_
            have h := Option.some.inj h
            subst h
            have hk : o = f43_script_Right_out false := hk
            subst hk
            exact At.fin hm ht ⟨[], [], [], [2], []⟩ [] (by kernel_rfl) trivial
          · rcases iteS h with ⟨b798_9, h⟩ | ⟨b798_9, h⟩
            · obtain ⟨r798_0, cr798_0, h⟩ := bindS h
              rcases iteS h with ⟨b798_e0, h⟩ | ⟨b798_e0, h⟩
              · refine At.step hm ht ⟨[(2, .b false), (6, .b false), (9, .b true), (12, .call [] [] (f72_strings_IndexByte_out r798_0))], [true], [], [], []⟩ 9 ⟨[], [], [], 0⟩ [(decide ((er784_0_0.2.1 : Int) < 0)) = false, (decide ((er784_0_0.2.1 : Int) ≥ 2147483648)) = false, ((er784_0_0.2.1 : Int) != 0) = true, FnOK Tryd.prog 72 (f72_strings_IndexByte_in names (t21.getD t23.toNat 0)) (f72_strings_IndexByte_out r798_0), (decide ((r798_0 : Int) < 0)) = true] (by kernel_rfl) ⟨b798_2, b798_6, b798_9, (f72_strings_IndexByte_ok names (t21.getD t23.toNat 0) r798_0 cr798_0), b798_e0, trivial⟩ ?_
                have h := Option.some.inj h
                subst h
                have hk : o = f43_script_Right_out false := hk
                subst hk
                exact At.fin hm ht ⟨[], [], [], [2], []⟩ [] (by kernel_rfl) trivial
              · refine At.step hm ht ⟨[(2, .b false), (6, .b false), (9, .b true), (12, .call [] [] (f72_strings_IndexByte_out r798_0))], [false], [], [1, 3, 21, 22, 23], [0, 1]⟩ 10 ⟨[(1, oc (.ptr 0 0)), (3, oc (.d (.str names))), (21, oc (.own 1 (.int .u8) t21)), (22, oc (zi t22)), (23, oc (zi t23))], [(1, some ⟨5, 1⟩)], [(0, [zi er784_0_0.1, zi er784_0_0.2.1, zi er784_0_0.2.2.1, zi er784_0_0.2.2.2.1, zi er784_0_0.2.2.2.2.1, zi er784_0_0.2.2.2.2.2.1, .d (.sl (.int .u8) er784_0_0.2.2.2.2.2.2)])], 2⟩ [(decide ((er784_0_0.2.1 : Int) < 0)) = false, (decide ((er784_0_0.2.1 : Int) ≥ 2147483648)) = false, ((er784_0_0.2.1 : Int) != 0) = true, FnOK Tryd.prog 72 (f72_strings_IndexByte_in names (t21.getD t23.toNat 0)) (f72_strings_IndexByte_out r798_0), (decide ((r798_0 : Int) < 0)) = false] (by kernel_rfl) ⟨b798_2, b798_6, b798_9, (f72_strings_IndexByte_ok names (t21.getD t23.toNat 0) r798_0 cr798_0), b798_e0, trivial⟩ ?_
                refine At.step hm ht ⟨[], [], [], [1, 3, 21, 22, 23], [0, 1]⟩ 5 ⟨[(1, oc (.ptr 0 0)), (3, oc (.d (.str names))), (21, oc (.own 1 (.int .u8) t21)), (22, oc (zi t22)), (23, oc (zi (IntKind.wrap .i64 (t23 + 1))))], [(1, some ⟨5, 1⟩)], [(0, [zi er784_0_0.1, zi er784_0_0.2.1, zi er784_0_0.2.2.1, zi er784_0_0.2.2.2.1, zi er784_0_0.2.2.2.2.1, zi er784_0_0.2.2.2.2.2.1, .d (.sl (.int .u8) er784_0_0.2.2.2.2.2.2)])], 2⟩ [] (by kernel_rfl) trivial ?_
                exact ih names t21 t22 (IntKind.wrap .i64 (t23 + 1)) er784_0_0.1 er784_0_0.2.1 er784_0_0.2.2.1 er784_0_0.2.2.2.1 er784_0_0.2.2.2.2.1 er784_0_0.2.2.2.2.2.1 er784_0_0.2.2.2.2.2.2 w h o hk
            · refine At.step hm ht ⟨[(2, .b false), (6, .b false), (9, .b false)], [false], [], [1, 3, 21, 22, 23], [0, 1]⟩ 10 ⟨[(1, oc (.ptr 0 0)), (3, oc (.d (.str names))), (21, oc (.own 1 (.int .u8) t21)), (22, oc (zi t22)), (23, oc (zi t23))], [(1, some ⟨5, 1⟩)], [(0, [zi er784_0_0.1, zi er784_0_0.2.1, zi er784_0_0.2.2.1, zi er784_0_0.2.2.2.1, zi er784_0_0.2.2.2.2.1, zi er784_0_0.2.2.2.2.2.1, .d (.sl (.int .u8) er784_0_0.2.2.2.2.2.2)])], 2⟩ [(decide ((er784_0_0.2.1 : Int) < 0)) = false, (decide ((er784_0_0.2.1 : Int) ≥ 2147483648)) = false, ((er784_0_0.2.1 : Int) != 0) = false, false = false] (by kernel_rfl) ⟨b798_2, b798_6, b798_9, rfl, trivial⟩ ?_
              refine At.step hm ht ⟨[], [], [], [1, 3, 21, 22, 23], [0, 1]⟩ 5 ⟨[(1, oc (.ptr 0 0)), (3, oc (.d (.str names))), (21, oc (.own 1 (.int .u8) t21)), (22, oc (zi t22)), (23, oc (zi (IntKind.wrap .i64 (t23 + 1))))], [(1, some ⟨5, 1⟩)], [(0, [zi er784_0_0.1, zi er784_0_0.2.1, zi er784_0_0.2.2.1, zi er784_0_0.2.2.2.1, zi er784_0_0.2.2.2.2.1, zi er784_0_0.2.2.2.2.2.1, .d (.sl (.int .u8) er784_0_0.2.2.2.2.2.2)])], 2⟩ [] (by kernel_rfl) trivial ?_
              exact ih names t21 t22 (IntKind.wrap .i64 (t23 + 1)) er784_0_0.1 er784_0_0.2.1 er784_0_0.2.2.1 er784_0_0.2.2.2.1 er784_0_0.2.2.2.2.1 er784_0_0.2.2.2.2.2.1 er784_0_0.2.2.2.2.2.2 w h o hk
      · refine At.step hm ht ⟨[(1, .call [0] [] (f71_script_part_v3_out (.inr (.inl er784_0_1))))], [], [], [1, 3, 5, 6, 21, 22, 23], [0, 1]⟩ 8 ⟨[(1, oc (.ptr 0 0)), (3, oc (.d (.str names))), (5, oc (.d (.int .u8 (t21.getD t23.toNat 0)))), (6, oc (zi er784_0_1.2.2.1)), (21, oc (.own 1 (.int .u8) t21)), (22, oc (zi t22)), (23, oc (zi t23))], [(1, some ⟨5, 1⟩)], [(0, [zi er784_0_1.1, zi er784_0_1.2.1, zi er784_0_1.2.2.1, zi er784_0_1.2.2.2.1, zi er784_0_1.2.2.2.2.1, zi er784_0_1.2.2.2.2.2.1, .d (.sl (.int .u8) er784_0_1.2.2.2.2.2.2)])], 2⟩ [FnOK Tryd.prog 71 (f71_script_part_v3_in (t21.getD t23.toNat 0) s_0 s_1 s_2 s_3 s_4 s_5 s_6) (f71_script_part_v3_out (.inr (.inl er784_0_1)))] (by kernel_rfl) ⟨(f71_script_part_v3_ok (t21.getD t23.toNat 0) s_0 s_1 s_2 s_3 s_4 s_5 s_6 (.inr (.inl er784_0_1)) cr784_0), trivial⟩ ?_
        rcases iteS h with ⟨b804_2, h⟩ | ⟨b804_2, h⟩
        · refine At.step hm ht ⟨[(2, .b true)], [true], [], [], []⟩ 9 ⟨[], [], [], 0⟩ [(decide ((er784_0_1.2.2.1 : Int) < 0)) = true, true = true] (by kernel_rfl) ⟨b804_2, rfl, trivial⟩ ?_
          have h := Option.some.inj h
          subst h
          have hk : o = f43_script_Right_out false := hk
          subst hk
          exact At.fin hm ht ⟨[], [], [], [2], []⟩ [] (by kernel_rfl) trivial
        · rcases iteS h with ⟨b804_6, h⟩ | ⟨b804_6, h⟩
          · refine At.step hm ht ⟨[(2, .b false), (6, .b true)], [true], [], [], []⟩ 9 ⟨[], [], [], 0⟩ [(decide ((er784_0_1.2.2.1 : Int) < 0)) = false, (decide ((er784_0_1.2.2.1 : Int) ≥ 2147483648)) = true, true = true] (by kernel_rfl) ⟨b804_2, b804_6, rfl, trivial⟩ ?_
            have h := Option.some.inj h
            subst h
            have hk : o = f43_script_Right_out false := hk
            subst hk
            exact At.fin hm ht ⟨[], [], [], [2], []⟩ [] (by kernel_rfl) trivial
          · rcases iteS h with ⟨b804_9, h⟩ | ⟨b804_9, h⟩
            · obtain ⟨r804_0, cr804_0, h⟩ := bindS h
              rcases iteS h with ⟨b804_e0, h⟩ | ⟨b804_e0, h⟩
              · refine At.step hm ht ⟨[(2, .b false), (6, .b false), (9, .b true), (12, .call [] [] (f72_strings_IndexByte_out r804_0))], [true], [], [], []⟩ 9 ⟨[], [], [], 0⟩ [(decide ((er784_0_1.2.2.1 : Int) < 0)) = false, (decide ((er784_0_1.2.2.1 : Int) ≥ 2147483648)) = false, ((er784_0_1.2.2.1 : Int) != 0) = true, FnOK Tryd.prog 72 (f72_strings_IndexByte_in names (t21.getD t23.toNat 0)) (f72_strings_IndexByte_out r804_0), (decide ((r804_0 : Int) < 0)) = true] (by kernel_rfl) ⟨b804_2, b804_6, b804_9, (f72_strings_IndexByte_ok names (t21.getD t23.toNat 0) r804_0 cr804_0), b804_e0, trivial⟩ ?_
                have h := Option.some.inj h
                subst h
                have hk : o = f43_script_Right_out false := hk
                subst hk
                exact At.fin hm ht ⟨[], [], [], [2], []⟩ [] (by kernel_rfl) trivial
              · refine At.step hm ht ⟨[(2, .b false), (6, .b false), (9, .b true), (12, .call [] [] (f72_strings_IndexByte_out r804_0))], [false], [], [1, 3, 21, 22, 23], [0, 1]⟩ 10 ⟨[(1, oc (.ptr 0 0)), (3, oc (.d (.str names))), (21, oc (.own 1 (.int .u8) t21)), (22, oc (zi t22)), (23, oc (zi t23))], [(1, some ⟨5, 1⟩)], [(0, [zi er784_0_1.1, zi er784_0_1.2.1, zi er784_0_1.2.2.1, zi er784_0_1.2.2.2.1, zi er784_0_1.2.2.2.2.1, zi er784_0_1.2.2.2.2.2.1, .d (.sl (.int .u8) er784_0_1.2.2.2.2.2.2)])], 2⟩ [(decide ((er784_0_1.2.2.1 : Int) < 0)) = false, (decide ((er784_0_1.2.2.1 : Int) ≥ 2147483648)) = false, ((er784_0_1.2.2.1 : Int) != 0) = true, FnOK Tryd.prog 72 (f72_strings_IndexByte_in names (t21.getD t23.toNat 0)) (f72_strings_IndexByte_out r804_0), (decide ((r804_0 : Int) < 0)) = false] (by kernel_rfl) ⟨b804_2, b804_6, b804_9, (f72_strings_IndexByte_ok names (t21.getD t23.toNat 0) r804_0 cr804_0), b804_e0, trivial⟩ ?_
                refine At.step hm ht ⟨[], [], [], [1, 3, 21, 22, 23], [0, 1]⟩ 5 ⟨[(1, oc (.ptr 0 0)), (3, oc (.d (.str names))), (21, oc (.own 1 (.int .u8) t21)), (22, oc (zi t22)), (23, oc (zi (IntKind.wrap .i64 (t23 + 1))))], [(1, some ⟨5, 1⟩)], [(0, [zi er784_0_1.1, zi er784_0_1.2.1, zi er784_0_1.2.2.1, zi er784_0_1.2.2.2.1, zi er784_0_1.2.2.2.2.1, zi er784_0_1.2.2.2.2.2.1, .d (.sl (.int .u8) er784_0_1.2.2.2.2.2.2)])], 2⟩ [] (by kernel_rfl) trivial ?_
                exact ih names t21 t22 (IntKind.wrap .i64 (t23 + 1)) er784_0_1.1 er784_0_1.2.1 er784_0_1.2.2.1 er784_0_1.2.2.2.1 er784_0_1.2.2.2.2.1 er784_0_1.2.2.2.2.2.1 er784_0_1.2.2.2.2.2.2 w h o hk
            · refine At.step hm ht ⟨[(2, .b false), (6, .b false), (9, .b false)], [false], [], [1, 3, 21, 22, 23], [0, 1]⟩ 10 ⟨[(1, oc (.ptr 0 0)), (3, oc (.d (.str names))), (21, oc (.own 1 (.int .u8) t21)), (22, oc (zi t22)), (23, oc (zi t23))], [(1, some ⟨5, 1⟩)], [(0, [zi er784_0_1.1, zi er784_0_1.2.1, zi er784_0_1.2.2.1, zi er784_0_1.2.2.2.1, zi er784_0_1.2.2.2.2.1, zi er784_0_1.2.2.2.2.2.1, .d (.sl (.int .u8) er784_0_1.2.2.2.2.2.2)])], 2⟩ [(decide ((er784_0_1.2.2.1 : Int) < 0)) = false, (decide ((er784_0_1.2.2.1 : Int) ≥ 2147483648)) = false, ((er784_0_1.2.2.1 : Int) != 0) = false, false = false] (by kernel_rfl) ⟨b804_2, b804_6, b804_9, rfl, trivial⟩ ?_
              refine At.step hm ht ⟨[], [], [], [1, 3, 21, 22, 23], [0, 1]⟩ 5 ⟨[(1, oc (.ptr 0 0)), (3, oc (.d (.str names))), (21, oc (.own 1 (.int .u8) t21)), (22, oc (zi t22)), (23, oc (zi (IntKind.wrap .i64 (t23 + 1))))], [(1, some ⟨5, 1⟩)], [(0, [zi er784_0_1.1, zi er784_0_1.2.1, zi er784_0_1.2.2.1, zi er784_0_1.2.2.2.1, zi er784_0_1.2.2.2.2.1, zi er784_0_1.2.2.2.2.2.1, .d (.sl (.int .u8) er784_0_1.2.2.2.2.2.2)])], 2⟩ [] (by kernel_rfl) trivial ?_
              exact ih names t21 t22 (IntKind.wrap .i64 (t23 + 1)) er784_0_1.1 er784_0_1.2.1 er784_0_1.2.2.1 er784_0_1.2.2.2.1 er784_0_1.2.2.2.2.1 er784_0_1.2.2.2.2.2.1 er784_0_1.2.2.2.2.2.2 w h o hk
      · refine At.step hm ht ⟨[(1, .call [0] [] (f71_script_part_v3_out (.inr (.inr (.inl er784_0_2)))))], [], [], [1, 3, 5, 6, 21, 22, 23], [0, 1]⟩ 8 ⟨[(1, oc (.ptr 0 0)), (3, oc (.d (.str names))), (5, oc (.d (.int .u8 (t21.getD t23.toNat 0)))), (6, oc (zi er784_0_2.2.2.2.1)), (21, oc (.own 1 (.int .u8) t21)), (22, oc (zi t22)), (23, oc (zi t23))], [(1, some ⟨5, 1⟩)], [(0, [zi er784_0_2.1, zi er784_0_2.2.1, zi er784_0_2.2.2.1, zi er784_0_2.2.2.2.1, zi er784_0_2.2.2.2.2.1, zi er784_0_2.2.2.2.2.2.1, .d (.sl (.int .u8) er784_0_2.2.2.2.2.2.2)])], 2⟩ [FnOK Tryd.prog 71 (f71_script_part_v3_in (t21.getD t23.toNat 0) s_0 s_1 s_2 s_3 s_4 s_5 s_6) (f71_script_part_v3_out (.inr (.inr (.inl er784_0_2))))] (by kernel_rfl) ⟨(f71_script_part_v3_ok (t21.getD t23.toNat 0) s_0 s_1 s_2 s_3 s_4 s_5 s_6 (.inr (.inr (.inl er784_0_2))) cr784_0), trivial⟩ ?_
        rcases iteS h with ⟨b810_2, h⟩ | ⟨b810_2, h⟩
        · refine At.step hm ht ⟨[(2, .b true)], [true], [], [], []⟩ 9 ⟨[], [], [], 0⟩ [(decide ((er784_0_2.2.2.2.1 : Int) < 0)) = true, true = true] (by kernel_rfl) ⟨b810_2, rfl, trivial⟩ ?_
          have h := Option.some.inj h
          subst h
          have hk : o = f43_script_Right_out false := hk
          subst hk
          exact At.fin hm ht ⟨[], [], [], [2], []⟩ [] (by kernel_rfl) trivial
        · rcases iteS h with ⟨b810_6, h⟩ | ⟨b810_6, h⟩
          · refine At.step hm ht ⟨[(2, .b false), (6, .b true)], [true], [], [], []⟩ 9 ⟨[], [], [], 0⟩ [(decide ((er784_0_2.2.2.2.1 : Int) < 0)) = false, (decide ((er784_0_2.2.2.2.1 : Int) ≥ 2147483648)) = true, true = true] (by kernel_rfl) ⟨b810_2, b810_6, rfl, trivial⟩ ?_
            have h := Option.some.inj h
            subst h
            have hk : o = f43_script_Right_out false := hk
            subst hk
            exact At.fin hm ht ⟨[], [], [], [2], []⟩ [] (by kernel_rfl) trivial
          · rcases iteS h with ⟨b810_9, h⟩ | ⟨b810_9, h⟩
            · obtain ⟨r810_0, cr810_0, h⟩ := bindS h
              rcases iteS h with ⟨b810_e0, h⟩ | ⟨b810_e0, h⟩
              · refine At.step hm ht ⟨[(2, .b false), (6, .b false), (9, .b true), (12, .call [] [] (f72_strings_IndexByte_out r810_0))], [true], [], [], []⟩ 9 ⟨[], [], [], 0⟩ [(decide ((er784_0_2.2.2.2.1 : Int) < 0)) = false, (decide ((er784_0_2.2.2.2.1 : Int) ≥ 2147483648)) = false, ((er784_0_2.2.2.2.1 : Int) != 0) = true, FnOK Tryd.prog 72 (f72_strings_IndexByte_in names (t21.getD t23.toNat 0)) (f72_strings_IndexByte_out r810_0), (decide ((r810_0 : Int) < 0)) = true] (by kernel_rfl) ⟨b810_2, b810_6, b810_9, (f72_strings_IndexByte_ok names (t21.getD t23.toNat 0) r810_0 cr810_0), b810_e0, trivial⟩ ?_
                have h := Option.some.inj h
                subst h
                have hk : o = f43_script_Right_out false := hk
                subst hk
                exact At.fin hm ht ⟨[], [], [], [2], []⟩ [] (by kernel_rfl) trivial
              · refine At.step hm ht ⟨[(2, .b false), (6, .b false), (9, .b true), (12, .call [] [] (f72_strings_IndexByte_out r810_0))], [false], [], [1, 3, 21, 22, 23], [0, 1]⟩ 10 ⟨[(1, oc (.ptr 0 0)), (3, oc (.d (.str names))), (21, oc (.own 1 (.int .u8) t21)), (22, oc (zi t22)), (23, oc (zi t23))], [(1, some ⟨5, 1⟩)], [(0, [zi er784_0_2.1, zi er784_0_2.2.1, zi er784_0_2.2.2.1, zi er784_0_2.2.2.2.1, zi er784_0_2.2.2.2.2.1, zi er784_0_2.2.2.2.2.2.1, .d (.sl (.int .u8) er784_0_2.2.2.2.2.2.2)])], 2⟩ [(decide ((er784_0_2.2.2.2.1 : Int) < 0)) = false, (decide ((er784_0_2.2.2.2.1 : Int) ≥ 2147483648)) = false, ((er784_0_2.2.2.2.1 : Int) != 0) = true, FnOK Tryd.prog 72 (f72_strings_IndexByte_in names (t21.getD t23.toNat 0)) (f72_strings_IndexByte_out r810_0), (decide ((r810_0 : Int) < 0)) = false] (by kernel_rfl) ⟨b810_2, b810_6, b810_9, (f72_strings_IndexByte_ok names (t21.getD t23.toNat 0) r810_0 cr810_0), b810_e0, trivial⟩ ?_
                refine At.step hm ht ⟨[], [], [], [1, 3, 21, 22, 23], [0, 1]⟩ 5 ⟨[(1, oc (.ptr 0 0)), (3, oc (.d (.str names))), (21, oc (.own 1 (.int .u8) t21)), (22, oc (zi t22)), (23, oc (zi (IntKind.wrap .i64 (t23 + 1))))], [(1, some ⟨5, 1⟩)], [(0, [zi er784_0_2.1, zi er784_0_2.2.1, zi er784_0_2.2.2.1, zi er784_0_2.2.2.2.1, zi er784_0_2.2.2.2.2.1, zi er784_0_2.2.2.2.2.2.1, .d (.sl (.int .u8) er784_0_2.2.2.2.2.2.2)])], 2⟩ [] (by kernel_rfl) trivial ?_
                exact ih names t21 t22 (IntKind.wrap .i64 (t23 + 1)) er784_0_2.1 er784_0_2.2.1 er784_0_2.2.2.1 er784_0_2.2.2.2.1 er784_0_2.2.2.2.2.1 er784_0_2.2.2.2.2.2.1 er784_0_2.2.2.2.2.2.2 w h o hk
            · refine At.step hm ht ⟨[(2, .b false), (6, .b false), (9, .b false)], [false], [], [1, 3, 21, 22, 23], [0, 1]⟩ 10 ⟨[(1, oc (.ptr 0 0)), (3, oc (.d (.str names))), (21, oc (.own 1 (.int .u8) t21)), (22, oc (zi t22)), (23, oc (zi t23))], [(1, some ⟨5, 1⟩)], [(0, [zi er784_0_2.1, zi er784_0_2.2.1, zi er784_0_2.2.2.1, zi er784_0_2.2.2.2.1, zi er784_0_2.2.2.2.2.1, zi er784_0_2.2.2.2.2.2.1, .d (.sl (.int .u8) er784_0_2.2.2.2.2.2.2)])], 2⟩ [(decide ((er784_0_2.2.2.2.1 : Int) < 0)) = false, (decide ((er784_0_2.2.2.2.1 : Int) ≥ 2147483648)) = false, ((er784_0_2.2.2.2.1 : Int) != 0) = false, false = false] (by kernel_rfl) ⟨b810_2, b810_6, b810_9, rfl, trivial⟩ ?_
              refine At.step hm ht ⟨[], [], [], [1, 3, 21, 22, 23], [0, 1]⟩ 5 ⟨[(1, oc (.ptr 0 0)), (3, oc (.d (.str names))), (21, oc (.own 1 (.int .u8) t21)), (22, oc (zi t22)), (23, oc (zi (IntKind.wrap .i64 (t23 + 1))))], [(1, some ⟨5, 1⟩)], [(0, [zi er784_0_2.1, zi er784_0_2.2.1, zi er784_0_2.2.2.1, zi er784_0_2.2.2.2.1, zi er784_0_2.2.2.2.2.1, zi er784_0_2.2.2.2.2.2.1, .d (.sl (.int .u8) er784_0_2.2.2.2.2.2.2)])], 2⟩ [] (by kernel_rfl) trivial ?_
              exact ih names t21 t22 (IntKind.wrap .i64 (t23 + 1)) er784_0_2.1 er784_0_2.2.1 er784_0_2.2.2.1 er784_0_2.2.2.2.1 er784_0_2.2.2.2.2.1 er784_0_2.2.2.2.2.2.1 er784_0_2.2.2.2.2.2.2 w h o hk
      · refine At.step hm ht ⟨[(1, .call [0] [] (f71_script_part_v3_out (.inr (.inr (.inr (.inl er784_0_3))))))], [], [], [1, 3, 5, 6, 21, 22, 23], [0, 1]⟩ 8 ⟨[(1, oc (.ptr 0 0)), (3, oc (.d (.str names))), (5, oc (.d (.int .u8 (t21.getD t23.toNat 0)))), (6, oc (zi er784_0_3.2.2.2.2.1)), (21, oc (.own 1 (.int .u8) t21)), (22, oc (zi t22)), (23, oc (zi t23))], [(1, some ⟨5, 1⟩)], [(0, [zi er784_0_3.1, zi er784_0_3.2.1, zi er784_0_3.2.2.1, zi er784_0_3.2.2.2.1, zi er784_0_3.2.2.2.2.1, zi er784_0_3.2.2.2.2.2.1, .d (.sl (.int .u8) er784_0_3.2.2.2.2.2.2)])], 2⟩ [FnOK Tryd.prog 71 (f71_script_part_v3_in (t21.getD t23.toNat 0) s_0 s_1 s_2 s_3 s_4 s_5 s_6) (f71_script_part_v3_out (.inr (.inr (.inr (.inl er784_0_3)))))] (by kernel_rfl) ⟨(f71_script_part_v3_ok (t21.getD t23.toNat 0) s_0 s_1 s_2 s_3 s_4 s_5 s_6 (.inr (.inr (.inr (.inl er784_0_3)))) cr784_0), trivial⟩ ?_
        rcases iteS h with ⟨b816_2, h⟩ | ⟨b816_2, h⟩
        · refine At.step hm ht ⟨[(2, .b true)], [true], [], [], []⟩ 9 ⟨[], [], [], 0⟩ [(decide ((er784_0_3.2.2.2.2.1 : Int) < 0)) = true, true = true] (by kernel_rfl) ⟨b816_2, rfl, trivial⟩ ?_
          have h := Option.some.inj h
          subst h
          have hk : o = f43_script_Right_out false := hk
          subst hk
          exact At.fin hm ht ⟨[], [], [], [2], []⟩ [] (by kernel_rfl) trivial
        · rcases iteS h with ⟨b816_6, h⟩ | ⟨b816_6, h⟩
          · refine At.step hm ht ⟨[(2, .b false), (6, .b true)], [true], [], [], []⟩ 9 ⟨[], [], [], 0⟩ [(decide ((er784_0_3.2.2.2.2.1 : Int) < 0)) = false, (decide ((er784_0_3.2.2.2.2.1 : Int) ≥ 2147483648)) = true, true = true] (by kernel_rfl) ⟨b816_2, b816_6, rfl, trivial⟩ ?_
            have h := Option.some.inj h
            subst h
            have hk : o = f43_script_Right_out false := hk
            subst hk
            exact At.fin hm ht ⟨[], [], [], [2], []⟩ [] (by kernel_rfl) trivial
          · rcases iteS h with ⟨b816_9, h⟩ | ⟨b816_9, h⟩
            · obtain ⟨r816_0, cr816_0, h⟩ := bindS h
              rcases iteS h with ⟨b816_e0, h⟩ | ⟨b816_e0, h⟩
              · refine At.step hm ht ⟨[(2, .b false), (6, .b false), (9, .b true), (12, .call [] [] (f72_strings_IndexByte_out r816_0))], [true], [], [], []⟩ 9 ⟨[], [], [], 0⟩ [(decide ((er784_0_3.2.2.2.2.1 : Int) < 0)) = false, (decide ((er784_0_3.2.2.2.2.1 : Int) ≥ 2147483648)) = false, ((er784_0_3.2.2.2.2.1 : Int) != 0) = true, FnOK Tryd.prog 72 (f72_strings_IndexByte_in names (t21.getD t23.toNat 0)) (f72_strings_IndexByte_out r816_0), (decide ((r816_0 : Int) < 0)) = true] (by kernel_rfl) ⟨b816_2, b816_6, b816_9, (f72_strings_IndexByte_ok names (t21.getD t23.toNat 0) r816_0 cr816_0), b816_e0, trivial⟩ ?_
                have h := Option.some.inj h
                subst h
                have hk : o = f43_script_Right_out false := hk
                subst hk
                exact At.fin hm ht ⟨[], [], [], [2], []⟩ [] (by kernel_rfl) trivial
              · refine At.step hm ht ⟨[(2, .b false), (6, .b false), (9, .b true), (12, .call [] [] (f72_strings_IndexByte_out r816_0))], [false], [], [1, 3, 21, 22, 23], [0, 1]⟩ 10 ⟨[(1, oc (.ptr 0 0)), (3, oc (.d (.str names))), (21, oc (.own 1 (.int .u8) t21)), (22, oc (zi t22)), (23, oc (zi t23))], [(1, some ⟨5, 1⟩)], [(0, [zi er784_0_3.1, zi er784_0_3.2.1, zi er784_0_3.2.2.1, zi er784_0_3.2.2.2.1, zi er784_0_3.2.2.2.2.1, zi er784_0_3.2.2.2.2.2.1, .d (.sl (.int .u8) er784_0_3.2.2.2.2.2.2)])], 2⟩ [(decide ((er784_0_3.2.2.2.2.1 : Int) < 0)) = false, (decide ((er784_0_3.2.2.2.2.1 : Int) ≥ 2147483648)) = false, ((er784_0_3.2.2.2.2.1 : Int) != 0) = true, FnOK Tryd.prog 72 (f72_strings_IndexByte_in names (t21.getD t23.toNat 0)) (f72_strings_IndexByte_out r816_0), (decide ((r816_0 : Int) < 0)) = false] (by kernel_rfl) ⟨b816_2, b816_6, b816_9, (f72_strings_IndexByte_ok names (t21.getD t23.toNat 0) r816_0 cr816_0), b816_e0, trivial⟩ ?_
                refine At.step hm ht ⟨[], [], [], [1, 3, 21, 22, 23], [0, 1]⟩ 5 ⟨[(1, oc (.ptr 0 0)), (3, oc (.d (.str names))), (21, oc (.own 1 (.int .u8) t21)), (22, oc (zi t22)), (23, oc (zi (IntKind.wrap .i64 (t23 + 1))))], [(1, some ⟨5, 1⟩)], [(0, [zi er784_0_3.1, zi er784_0_3.2.1, zi er784_0_3.2.2.1, zi er784_0_3.2.2.2.1, zi er784_0_3.2.2.2.2.1, zi er784_0_3.2.2.2.2.2.1, .d (.sl (.int .u8) er784_0_3.2.2.2.2.2.2)])], 2⟩ [] (by kernel_rfl) trivial ?_
                exact ih names t21 t22 (IntKind.wrap .i64 (t23 + 1)) er784_0_3.1 er784_0_3.2.1 er784_0_3.2.2.1 er784_0_3.2.2.2.1 er784_0_3.2.2.2.2.1 er784_0_3.2.2.2.2.2.1 er784_0_3.2.2.2.2.2.2 w h o hk
            · refine At.step hm ht ⟨[(2, .b false), (6, .b false), (9, .b false)], [false], [], [1, 3, 21, 22, 23], [0, 1]⟩ 10 ⟨[(1, oc (.ptr 0 0)), (3, oc (.d (.str names))), (21, oc (.own 1 (.int .u8) t21)), (22, oc (zi t22)), (23, oc (zi t23))], [(1, some ⟨5, 1⟩)], [(0, [zi er784_0_3.1, zi er784_0_3.2.1, zi er784_0_3.2.2.1, zi er784_0_3.2.2.2.1, zi er784_0_3.2.2.2.2.1, zi er784_0_3.2.2.2.2.2.1, .d (.sl (.int .u8) er784_0_3.2.2.2.2.2.2)])], 2⟩ [(decide ((er784_0_3.2.2.2.2.1 : Int) < 0)) = false, (decide ((er784_0_3.2.2.2.2.1 : Int) ≥ 2147483648)) = false, ((er784_0_3.2.2.2.2.1 : Int) != 0) = false, false = false] (by kernel_rfl) ⟨b816_2, b816_6, b816_9, rfl, trivial⟩ ?_
              refine At.step hm ht ⟨[], [], [], [1, 3, 21, 22, 23], [0, 1]⟩ 5 ⟨[(1, oc (.ptr 0 0)), (3, oc (.d (.str names))), (21, oc (.own 1 (.int .u8) t21)), (22, oc (zi t22)), (23, oc (zi (IntKind.wrap .i64 (t23 + 1))))], [(1, some ⟨5, 1⟩)], [(0, [zi er784_0_3.1, zi er784_0_3.2.1, zi er784_0_3.2.2.1, zi er784_0_3.2.2.2.1, zi er784_0_3.2.2.2.2.1, zi er784_0_3.2.2.2.2.2.1, .d (.sl (.int .u8) er784_0_3.2.2.2.2.2.2)])], 2⟩ [] (by kernel_rfl) trivial ?_
              exact ih names t21 t22 (IntKind.wrap .i64 (t23 + 1)) er784_0_3.1 er784_0_3.2.1 er784_0_3.2.2.1 er784_0_3.2.2.2.1 er784_0_3.2.2.2.2.1 er784_0_3.2.2.2.2.2.1 er784_0_3.2.2.2.2.2.2 w h o hk
      · refine At.step hm ht ⟨[(1, .call [0] [] (f71_script_part_v3_out (.inr (.inr (.inr (.inr (.inl er784_0_4)))))))], [], [], [1, 3, 5, 6, 21, 22, 23], [0, 1]⟩ 8 ⟨[(1, oc (.ptr 0 0)), (3, oc (.d (.str names))), (5, oc (.d (.int .u8 (t21.getD t23.toNat 0)))), (6, oc (zi er784_0_4.2.2.2.2.2.1)), (21, oc (.own 1 (.int .u8) t21)), (22, oc (zi t22)), (23, oc (zi t23))], [(1, some ⟨5, 1⟩)], [(0, [zi er784_0_4.1, zi er784_0_4.2.1, zi er784_0_4.2.2.1, zi er784_0_4.2.2.2.1, zi er784_0_4.2.2.2.2.1, zi er784_0_4.2.2.2.2.2.1, .d (.sl (.int .u8) er784_0_4.2.2.2.2.2.2)])], 2⟩ [FnOK Tryd.prog 71 (f71_script_part_v3_in (t21.getD t23.toNat 0) s_0 s_1 s_2 s_3 s_4 s_5 s_6) (f71_script_part_v3_out (.inr (.inr (.inr (.inr (.inl er784_0_4))))))] (by kernel_rfl) ⟨(f71_script_part_v3_ok (t21.getD t23.toNat 0) s_0 s_1 s_2 s_3 s_4 s_5 s_6 (.inr (.inr (.inr (.inr (.inl er784_0_4))))) cr784_0), trivial⟩ ?_
        rcases iteS h with ⟨b822_2, h⟩ | ⟨b822_2, h⟩
        · refine At.step hm ht ⟨[(2, .b true)], [true], [], [], []⟩ 9 ⟨[], [], [], 0⟩ [(decide ((er784_0_4.2.2.2.2.2.1 : Int) < 0)) = true, true = true] (by kernel_rfl) ⟨b822_2, rfl, trivial⟩ ?_
          have h := Option.some.inj h
          subst h
          have hk : o = f43_script_Right_out false := hk
          subst hk
          exact At.fin hm ht ⟨[], [], [], [2], []⟩ [] (by kernel_rfl) trivial
        · rcases iteS h with ⟨b822_6, h⟩ | ⟨b822_6, h⟩
          · refine At.step hm ht ⟨[(2, .b false), (6, .b true)], [true], [], [], []⟩ 9 ⟨[], [], [], 0⟩ [(decide ((er784_0_4.2.2.2.2.2.1 : Int) < 0)) = false, (decide ((er784_0_4.2.2.2.2.2.1 : Int) ≥ 2147483648)) = true, true = true] (by kernel_rfl) ⟨b822_2, b822_6, rfl, trivial⟩ ?_
            have h := Option.some.inj h
            subst h
            have hk : o = f43_script_Right_out false := hk
            subst hk
            exact At.fin hm ht ⟨[], [], [], [2], []⟩ [] (by kernel_rfl) trivial
          · rcases iteS h with ⟨b822_9, h⟩ | ⟨b822_9, h⟩
            · obtain ⟨r822_0, cr822_0, h⟩ := bindS h
              rcases iteS h with ⟨b822_e0, h⟩ | ⟨b822_e0, h⟩
              · refine At.step hm ht ⟨[(2, .b false), (6, .b false), (9, .b true), (12, .call [] [] (f72_strings_IndexByte_out r822_0))], [true], [], [], []⟩ 9 ⟨[], [], [], 0⟩ [(decide ((er784_0_4.2.2.2.2.2.1 : Int) < 0)) = false, (decide ((er784_0_4.2.2.2.2.2.1 : Int) ≥ 2147483648)) = false, ((er784_0_4.2.2.2.2.2.1 : Int) != 0) = true, FnOK Tryd.prog 72 (f72_strings_IndexByte_in names (t21.getD t23.toNat 0)) (f72_strings_IndexByte_out r822_0), (decide ((r822_0 : Int) < 0)) = true] (by kernel_rfl) ⟨b822_2, b822_6, b822_9, (f72_strings_IndexByte_ok names (t21.getD t23.toNat 0) r822_0 cr822_0), b822_e0, trivial⟩ ?_
                have h := Option.some.inj h
                subst h
                have hk : o = f43_script_Right_out false := hk
                subst hk
                exact At.fin hm ht ⟨[], [], [], [2], []⟩ [] (by kernel_rfl) trivial
              · refine At.step hm ht ⟨[(2, .b false), (6, .b false), (9, .b true), (12, .call [] [] (f72_strings_IndexByte_out r822_0))], [false], [], [1, 3, 21, 22, 23], [0, 1]⟩ 10 ⟨[(1, oc (.ptr 0 0)), (3, oc (.d (.str names))), (21, oc (.own 1 (.int .u8) t21)), (22, oc (zi t22)), (23, oc (zi t23))], [(1, some ⟨5, 1⟩)], [(0, [zi er784_0_4.1, zi er784_0_4.2.1, zi er784_0_4.2.2.1, zi er784_0_4.2.2.2.1, zi er784_0_4.2.2.2.2.1, zi er784_0_4.2.2.2.2.2.1, .d (.sl (.int .u8) er784_0_4.2.2.2.2.2.2)])], 2⟩ [(decide ((er784_0_4.2.2.2.2.2.1 : Int) < 0)) = false, (decide ((er784_0_4.2.2.2.2.2.1 : Int) ≥ 2147483648)) = false, ((er784_0_4.2.2.2.2.2.1 : Int) != 0) = true, FnOK Tryd.prog 72 (f72_strings_IndexByte_in names (t21.getD t23.toNat 0)) (f72_strings_IndexByte_out r822_0), (decide ((r822_0 : Int) < 0)) = false] (by kernel_rfl) ⟨b822_2, b822_6, b822_9, (f72_strings_IndexByte_ok names (t21.getD t23.toNat 0) r822_0 cr822_0), b822_e0, trivial⟩ ?_
                refine At.step hm ht ⟨[], [], [], [1, 3, 21, 22, 23], [0, 1]⟩ 5 ⟨[(1, oc (.ptr 0 0)), (3, oc (.d (.str names))), (21, oc (.own 1 (.int .u8) t21)), (22, oc (zi t22)), (23, oc (zi (IntKind.wrap .i64 (t23 + 1))))], [(1, some ⟨5, 1⟩)], [(0, [zi er784_0_4.1, zi er784_0_4.2.1, zi er784_0_4.2.2.1, zi er784_0_4.2.2.2.1, zi er784_0_4.2.2.2.2.1, zi er784_0_4.2.2.2.2.2.1, .d (.sl (.int .u8) er784_0_4.2.2.2.2.2.2)])], 2⟩ [] (by kernel_rfl) trivial ?_
                exact ih names t21 t22 (IntKind.wrap .i64 (t23 + 1)) er784_0_4.1 er784_0_4.2.1 er784_0_4.2.2.1 er784_0_4.2.2.2.1 er784_0_4.2.2.2.2.1 er784_0_4.2.2.2.2.2.1 er784_0_4.2.2.2.2.2.2 w h o hk
            · refine At.step hm ht ⟨[(2, .b false), (6, .b false), (9, .b false)], [false], [], [1, 3, 21, 22, 23], [0, 1]⟩ 10 ⟨[(1, oc (.ptr 0 0)), (3, oc (.d (.str names))), (21, oc (.own 1 (.int .u8) t21)), (22, oc (zi t22)), (23, oc (zi t23))], [(1, some ⟨5, 1⟩)], [(0, [zi er784_0_4.1, zi er784_0_4.2.1, zi er784_0_4.2.2.1, zi er784_0_4.2.2.2.1, zi er784_0_4.2.2.2.2.1, zi er784_0_4.2.2.2.2.2.1, .d (.sl (.int .u8) er784_0_4.2.2.2.2.2.2)])], 2⟩ [(decide ((er784_0_4.2.2.2.2.2.1 : Int) < 0)) = false, (decide ((er784_0_4.2.2.2.2.2.1 : Int) ≥ 2147483648)) = false, ((er784_0_4.2.2.2.2.2.1 : Int) != 0) = false, false = false] (by kernel_rfl) ⟨b822_2, b822_6, b822_9, rfl, trivial⟩ ?_
              refine At.step hm ht ⟨[], [], [], [1, 3, 21, 22, 23], [0, 1]⟩ 5 ⟨[(1, oc (.ptr 0 0)), (3, oc (.d (.str names))), (21, oc (.own 1 (.int .u8) t21)), (22, oc (zi t22)), (23, oc (zi (IntKind.wrap .i64 (t23 + 1))))], [(1, some ⟨5, 1⟩)], [(0, [zi er784_0_4.1, zi er784_0_4.2.1, zi er784_0_4.2.2.1, zi er784_0_4.2.2.2.1, zi er784_0_4.2.2.2.2.1, zi er784_0_4.2.2.2.2.2.1, .d (.sl (.int .u8) er784_0_4.2.2.2.2.2.2)])], 2⟩ [] (by kernel_rfl) trivial ?_
              exact ih names t21 t22 (IntKind.wrap .i64 (t23 + 1)) er784_0_4.1 er784_0_4.2.1 er784_0_4.2.2.1 er784_0_4.2.2.2.1 er784_0_4.2.2.2.2.1 er784_0_4.2.2.2.2.2.1 er784_0_4.2.2.2.2.2.2 w h o hk
      · cases h
    · refine At.step hm ht ⟨[], [false], [], [1, 3], [0]⟩ 11 ⟨[(1, oc (.ptr 0 0)), (3, oc (.d (.str names)))], [], [(0, [zi s_0, zi s_1, zi s_2, zi s_3, zi s_4, zi s_5, .d (.sl (.int .u8) s_6)])], 1⟩ [(decide ((t23 : Int) < t22)) = false] (by kernel_rfl) ⟨b782_e0, trivial⟩ ?_
      have h := Option.some.inj h
      subst h
      exact hk
def f43_script_Right (n : Nat) (s_0 : Int) (s_1 : Int) (s_2 : Int) (s_3 : Int) (s_4 : Int) (s_5 : Int) (s_6 : List Int) : Option (Bool) :=
  if (decide ((s_0 : Int) < 1)) = true then
    some false
  else
    if (decide ((s_0 : Int) > 16)) = true then
      some false
    else
      (f70_script_shapes).bind fun r780_0 =>
      if (0 : Int) ≤ s_0 ∧ s_0 < 17 then
      (f43_script_Right_L5 n (([r780_0.1, r780_0.2.1, r780_0.2.2.1, r780_0.2.2.2.1, r780_0.2.2.2.2.1, r780_0.2.2.2.2.2.1, r780_0.2.2.2.2.2.2.1, r780_0.2.2.2.2.2.2.2.1, r780_0.2.2.2.2.2.2.2.2.1, r780_0.2.2.2.2.2.2.2.2.2.1, r780_0.2.2.2.2.2.2.2.2.2.2.1, r780_0.2.2.2.2.2.2.2.2.2.2.2.1, r780_0.2.2.2.2.2.2.2.2.2.2.2.2.1, r780_0.2.2.2.2.2.2.2.2.2.2.2.2.2.1, r780_0.2.2.2.2.2.2.2.2.2.2.2.2.2.2.1, r780_0.2.2.2.2.2.2.2.2.2.2.2.2.2.2.2.1, r780_0.2.2.2.2.2.2.2.2.2.2.2.2.2.2.2.2.1, r780_0.2.2.2.2.2.2.2.2.2.2.2.2.2.2.2.2.2.1, r780_0.2.2.2.2.2.2.2.2.2.2.2.2.2.2.2.2.2.2.1, r780_0.2.2.2.2.2.2.2.2.2.2.2.2.2.2.2.2.2.2.2.1, r780_0.2.2.2.2.2.2.2.2.2.2.2.2.2.2.2.2.2.2.2.2.1, r780_0.2.2.2.2.2.2.2.2.2.2.2.2.2.2.2.2.2.2.2.2.2.1, r780_0.2.2.2.2.2.2.2.2.2.2.2.2.2.2.2.2.2.2.2.2.2.2.1, r780_0.2.2.2.2.2.2.2.2.2.2.2.2.2.2.2.2.2.2.2.2.2.2.2.1, r780_0.2.2.2.2.2.2.2.2.2.2.2.2.2.2.2.2.2.2.2.2.2.2.2.2.1, r780_0.2.2.2.2.2.2.2.2.2.2.2.2.2.2.2.2.2.2.2.2.2.2.2.2.2.1, r780_0.2.2.2.2.2.2.2.2.2.2.2.2.2.2.2.2.2.2.2.2.2.2.2.2.2.2.1, r780_0.2.2.2.2.2.2.2.2.2.2.2.2.2.2.2.2.2.2.2.2.2.2.2.2.2.2.2.1, r780_0.2.2.2.2.2.2.2.2.2.2.2.2.2.2.2.2.2.2.2.2.2.2.2.2.2.2.2.2.1, r780_0.2.2.2.2.2.2.2.2.2.2.2.2.2.2.2.2.2.2.2.2.2.2.2.2.2.2.2.2.2.1, r780_0.2.2.2.2.2.2.2.2.2.2.2.2.2.2.2.2.2.2.2.2.2.2.2.2.2.2.2.2.2.2.1, r780_0.2.2.2.2.2.2.2.2.2.2.2.2.2.2.2.2.2.2.2.2.2.2.2.2.2.2.2.2.2.2.2.1, r780_0.2.2.2.2.2.2.2.2.2.2.2.2.2.2.2.2.2.2.2.2.2.2.2.2.2.2.2.2.2.2.2.2.1, r780_0.2.2.2.2.2.2.2.2.2.2.2.2.2.2.2.2.2.2.2.2.2.2.2.2.2.2.2.2.2.2.2.2.2] : List ByteArray).getD (s_0.toNat * 2 + 1) ByteArray.empty) [104, 110, 112, 119, 107] (([104, 110, 112, 119, 107].length : Nat) : Int) 0 s_0 s_1 s_2 s_3 s_4 s_5 s_6).bind fun w828 =>
      match w828 with
      | .inl e829 =>
        some e829
      | .inr e830 =>
        if ((((e830.2.2.2.2.2.2.2.length : Nat) : Int) : Int) == 0) = true then
          some true
        else
          (f72_strings_IndexByte e830.1 98).bind fun r831_0 =>
          some (decide ((r831_0 : Int) ≥ 0))
      else none
theorem f43_script_Right_ok (n : Nat) (s_0 : Int) (s_1 : Int) (s_2 : Int) (s_3 : Int) (s_4 : Int) (s_5 : Int) (s_6 : List Int) (r : Bool) (h : f43_script_Right n s_0 s_1 s_2 s_3 s_4 s_5 s_6 = some r) : FnOK Tryd.prog 43 (f43_script_Right_in s_0 s_1 s_2 s_3 s_4 s_5 s_6) (f43_script_Right_out r) := by
  unfold f43_script_Right at h
  refine At.fn (r := 0) Tryd.func43 rfl (by kernel_rfl) rfl rfl (by kernel_rfl) ?_
  show At Tryd.prog Tryd.f43 0 0 ⟨[(0, .one (.agg [zi s_0, zi s_1, zi s_2, zi s_3, zi s_4, zi s_5, .d (.sl (.int .u8) s_6)]))], [], [], 0⟩ _
  refine At.step hm ht ⟨[], [], [], [1], [0]⟩ 1 ⟨[(1, oc (.ptr 0 0))], [], [(0, [zi s_0, zi s_1, zi s_2, zi s_3, zi s_4, zi s_5, .d (.sl (.int .u8) s_6)])], 1⟩ [] (by kernel_rfl) trivial ?_
  rcases iteS h with ⟨b777_3, h⟩ | ⟨b777_3, h⟩
  · refine At.step hm ht ⟨[(3, .b true)], [true], [], [], []⟩ 2 ⟨[], [], [], 0⟩ [(decide ((s_0 : Int) < 1)) = true, true = true] (by kernel_rfl) ⟨b777_3, rfl, trivial⟩ ?_
    have h := Option.some.inj h
    subst h
    exact At.fin hm ht ⟨[], [], [], [2], []⟩ [] (by kernel_rfl) trivial
  · rcases iteS h with ⟨b777_e0, h⟩ | ⟨b777_e0, h⟩
    · refine At.step hm ht ⟨[(3, .b false)], [true], [], [], []⟩ 2 ⟨[], [], [], 0⟩ [(decide ((s_0 : Int) < 1)) = false, (decide ((s_0 : Int) > 16)) = true] (by kernel_rfl) ⟨b777_3, b777_e0, trivial⟩ ?_
      have h := Option.some.inj h
      subst h
      exact At.fin hm ht ⟨[], [], [], [2], []⟩ [] (by kernel_rfl) trivial
    · refine At.step hm ht ⟨[(3, .b false)], [false], [], [1], [0]⟩ 3 ⟨[(1, oc (.ptr 0 0))], [], [(0, [zi s_0, zi s_1, zi s_2, zi s_3, zi s_4, zi s_5, .d (.sl (.int .u8) s_6)])], 1⟩ [(decide ((s_0 : Int) < 1)) = false, (decide ((s_0 : Int) > 16)) = false] (by kernel_rfl) ⟨b777_3, b777_e0, trivial⟩ ?_
      obtain ⟨r780_0, cr780_0, h⟩ := bindS h
      obtain ⟨g780_1, h⟩ := ifS h
      refine At.step hm ht ⟨[(0, .call [] [] (f70_script_shapes_out r780_0))], [], [], [1, 3], [0]⟩ 4 ⟨[(1, oc (.ptr 0 0)), (3, oc (.d (.str (([r780_0.1, r780_0.2.1, r780_0.2.2.1, r780_0.2.2.2.1, r780_0.2.2.2.2.1, r780_0.2.2.2.2.2.1, r780_0.2.2.2.2.2.2.1, r780_0.2.2.2.2.2.2.2.1, r780_0.2.2.2.2.2.2.2.2.1, r780_0.2.2.2.2.2.2.2.2.2.1, r780_0.2.2.2.2.2.2.2.2.2.2.1, r780_0.2.2.2.2.2.2.2.2.2.2.2.1, r780_0.2.2.2.2.2.2.2.2.2.2.2.2.1, r780_0.2.2.2.2.2.2.2.2.2.2.2.2.2.1, r780_0.2.2.2.2.2.2.2.2.2.2.2.2.2.2.1, r780_0.2.2.2.2.2.2.2.2.2.2.2.2.2.2.2.1, r780_0.2.2.2.2.2.2.2.2.2.2.2.2.2.2.2.2.1, r780_0.2.2.2.2.2.2.2.2.2.2.2.2.2.2.2.2.2.1, r780_0.2.2.2.2.2.2.2.2.2.2.2.2.2.2.2.2.2.2.1, r780_0.2.2.2.2.2.2.2.2.2.2.2.2.2.2.2.2.2.2.2.1, r780_0.2.2.2.2.2.2.2.2.2.2.2.2.2.2.2.2.2.2.2.2.1, r780_0.2.2.2.2.2.2.2.2.2.2.2.2.2.2.2.2.2.2.2.2.2.1, r780_0.2.2.2.2.2.2.2.2.2.2.2.2.2.2.2.2.2.2.2.2.2.2.1, r780_0.2.2.2.2.2.2.2.2.2.2.2.2.2.2.2.2.2.2.2.2.2.2.2.1, r780_0.2.2.2.2.2.2.2.2.2.2.2.2.2.2.2.2.2.2.2.2.2.2.2.2.1, r780_0.2.2.2.2.2.2.2.2.2.2.2.2.2.2.2.2.2.2.2.2.2.2.2.2.2.1, r780_0.2.2.2.2.2.2.2.2.2.2.2.2.2.2.2.2.2.2.2.2.2.2.2.2.2.2.1, r780_0.2.2.2.2.2.2.2.2.2.2.2.2.2.2.2.2.2.2.2.2.2.2.2.2.2.2.2.1, r780_0.2.2.2.2.2.2.2.2.2.2.2.2.2.2.2.2.2.2.2.2.2.2.2.2.2.2.2.2.1, r780_0.2.2.2.2.2.2.2.2.2.2.2.2.2.2.2.2.2.2.2.2.2.2.2.2.2.2.2.2.2.1, r780_0.2.2.2.2.2.2.2.2.2.2.2.2.2.2.2.2.2.2.2.2.2.2.2.2.2.2.2.2.2.2.1, r780_0.2.2.2.2.2.2.2.2.2.2.2.2.2.2.2.2.2.2.2.2.2.2.2.2.2.2.2.2.2.2.2.1, r780_0.2.2.2.2.2.2.2.2.2.2.2.2.2.2.2.2.2.2.2.2.2.2.2.2.2.2.2.2.2.2.2.2.1, r780_0.2.2.2.2.2.2.2.2.2.2.2.2.2.2.2.2.2.2.2.2.2.2.2.2.2.2.2.2.2.2.2.2.2] : List ByteArray).getD (s_0.toNat * 2 + 1) ByteArray.empty))))], [], [(0, [zi s_0, zi s_1, zi s_2, zi s_3, zi s_4, zi s_5, .d (.sl (.int .u8) s_6)])], 1⟩ [FnOK Tryd.prog 70 (f70_script_shapes_in) (f70_script_shapes_out r780_0), (0 : Int) ≤ s_0 ∧ s_0 < 17] (by kernel_rfl) ⟨(f70_script_shapes_ok r780_0 cr780_0), g780_1, trivial⟩ ?_
      refine At.step hm ht ⟨[], [], [], [1, 3, 21, 22, 23], [0, 2]⟩ 5 ⟨[(1, oc (.ptr 0 0)), (3, oc (.d (.str (([r780_0.1, r780_0.2.1, r780_0.2.2.1, r780_0.2.2.2.1, r780_0.2.2.2.2.1, r780_0.2.2.2.2.2.1, r780_0.2.2.2.2.2.2.1, r780_0.2.2.2.2.2.2.2.1, r780_0.2.2.2.2.2.2.2.2.1, r780_0.2.2.2.2.2.2.2.2.2.1, r780_0.2.2.2.2.2.2.2.2.2.2.1, r780_0.2.2.2.2.2.2.2.2.2.2.2.1, r780_0.2.2.2.2.2.2.2.2.2.2.2.2.1, r780_0.2.2.2.2.2.2.2.2.2.2.2.2.2.1, r780_0.2.2.2.2.2.2.2.2.2.2.2.2.2.2.1, r780_0.2.2.2.2.2.2.2.2.2.2.2.2.2.2.2.1, r780_0.2.2.2.2.2.2.2.2.2.2.2.2.2.2.2.2.1, r780_0.2.2.2.2.2.2.2.2.2.2.2.2.2.2.2.2.2.1, r780_0.2.2.2.2.2.2.2.2.2.2.2.2.2.2.2.2.2.2.1, r780_0.2.2.2.2.2.2.2.2.2.2.2.2.2.2.2.2.2.2.2.1, r780_0.2.2.2.2.2.2.2.2.2.2.2.2.2.2.2.2.2.2.2.2.1, r780_0.2.2.2.2.2.2.2.2.2.2.2.2.2.2.2.2.2.2.2.2.2.1, r780_0.2.2.2.2.2.2.2.2.2.2.2.2.2.2.2.2.2.2.2.2.2.2.1, r780_0.2.2.2.2.2.2.2.2.2.2.2.2.2.2.2.2.2.2.2.2.2.2.2.1, r780_0.2.2.2.2.2.2.2.2.2.2.2.2.2.2.2.2.2.2.2.2.2.2.2.2.1, r780_0.2.2.2.2.2.2.2.2.2.2.2.2.2.2.2.2.2.2.2.2.2.2.2.2.2.1, r780_0.2.2.2.2.2.2.2.2.2.2.2.2.2.2.2.2.2.2.2.2.2.2.2.2.2.2.1, r780_0.2.2.2.2.2.2.2.2.2.2.2.2.2.2.2.2.2.2.2.2.2.2.2.2.2.2.2.1, r780_0.2.2.2.2.2.2.2.2.2.2.2.2.2.2.2.2.2.2.2.2.2.2.2.2.2.2.2.2.1, r780_0.2.2.2.2.2.2.2.2.2.2.2.2.2.2.2.2.2.2.2.2.2.2.2.2.2.2.2.2.2.1, r780_0.2.2.2.2.2.2.2.2.2.2.2.2.2.2.2.2.2.2.2.2.2.2.2.2.2.2.2.2.2.2.1, r780_0.2.2.2.2.2.2.2.2.2.2.2.2.2.2.2.2.2.2.2.2.2.2.2.2.2.2.2.2.2.2.2.1, r780_0.2.2.2.2.2.2.2.2.2.2.2.2.2.2.2.2.2.2.2.2.2.2.2.2.2.2.2.2.2.2.2.2.1, r780_0.2.2.2.2.2.2.2.2.2.2.2.2.2.2.2.2.2.2.2.2.2.2.2.2.2.2.2.2.2.2.2.2.2] : List ByteArray).getD (s_0.toNat * 2 + 1) ByteArray.empty)))), (21, oc (.own 1 (.int .u8) ([104, 110, 112, 119, 107] : List Int))), (22, oc (zi (([104, 110, 112, 119, 107].length : Nat) : Int))), (23, oc (zi 0))], [(1, some ⟨5, 1⟩)], [(0, [zi s_0, zi s_1, zi s_2, zi s_3, zi s_4, zi s_5, .d (.sl (.int .u8) s_6)])], 2⟩ [] (by kernel_rfl) trivial ?_
      obtain ⟨w828, cw828, h⟩ := bindS h
      refine f43_script_Right_L5_ok n (([r780_0.1, r780_0.2.1, r780_0.2.2.1, r780_0.2.2.2.1, r780_0.2.2.2.2.1, r780_0.2.2.2.2.2.1, r780_0.2.2.2.2.2.2.1, r780_0.2.2.2.2.2.2.2.1, r780_0.2.2.2.2.2.2.2.2.1, r780_0.2.2.2.2.2.2.2.2.2.1, r780_0.2.2.2.2.2.2.2.2.2.2.1, r780_0.2.2.2.2.2.2.2.2.2.2.2.1, r780_0.2.2.2.2.2.2.2.2.2.2.2.2.1, r780_0.2.2.2.2.2.2.2.2.2.2.2.2.2.1, r780_0.2.2.2.2.2.2.2.2.2.2.2.2.2.2.1, r780_0.2.2.2.2.2.2.2.2.2.2.2.2.2.2.2.1, r780_0.2.2.2.2.2.2.2.2.2.2.2.2.2.2.2.2.1, r780_0.2.2.2.2.2.2.2.2.2.2.2.2.2.2.2.2.2.1, r780_0.2.2.2.2.2.2.2.2.2.2.2.2.2.2.2.2.2.2.1, r780_0.2.2.2.2.2.2.2.2.2.2.2.2.2.2.2.2.2.2.2.1, r780_0.2.2.2.2.2.2.2.2.2.2.2.2.2.2.2.2.2.2.2.2.1, r780_0.2.2.2.2.2.2.2.2.2.2.2.2.2.2.2.2.2.2.2.2.2.1, r780_0.2.2.2.2.2.2.2.2.2.2.2.2.2.2.2.2.2.2.2.2.2.2.1, r780_0.2.2.2.2.2.2.2.2.2.2.2.2.2.2.2.2.2.2.2.2.2.2.2.1, r780_0.2.2.2.2.2.2.2.2.2.2.2.2.2.2.2.2.2.2.2.2.2.2.2.2.1, r780_0.2.2.2.2.2.2.2.2.2.2.2.2.2.2.2.2.2.2.2.2.2.2.2.2.2.1, r780_0.2.2.2.2.2.2.2.2.2.2.2.2.2.2.2.2.2.2.2.2.2.2.2.2.2.2.1, r780_0.2.2.2.2.2.2.2.2.2.2.2.2.2.2.2.2.2.2.2.2.2.2.2.2.2.2.2.1, r780_0.2.2.2.2.2.2.2.2.2.2.2.2.2.2.2.2.2.2.2.2.2.2.2.2.2.2.2.2.1, r780_0.2.2.2.2.2.2.2.2.2.2.2.2.2.2.2.2.2.2.2.2.2.2.2.2.2.2.2.2.2.1, r780_0.2.2.2.2.2.2.2.2.2.2.2.2.2.2.2.2.2.2.2.2.2.2.2.2.2.2.2.2.2.2.1, r780_0.2.2.2.2.2.2.2.2.2.2.2.2.2.2.2.2.2.2.2.2.2.2.2.2.2.2.2.2.2.2.2.1, r780_0.2.2.2.2.2.2.2.2.2.2.2.2.2.2.2.2.2.2.2.2.2.2.2.2.2.2.2.2.2.2.2.2.1, r780_0.2.2.2.2.2.2.2.2.2.2.2.2.2.2.2.2.2.2.2.2.2.2.2.2.2.2.2.2.2.2.2.2.2] : List ByteArray).getD (s_0.toNat * 2 + 1) ByteArray.empty) [104, 110, 112, 119, 107] (([104, 110, 112, 119, 107].length : Nat) : Int) 0 s_0 s_1 s_2 s_3 s_4 s_5 s_6 w828 cw828 _ ?_
      rcases w828 with e829 | e830
      · have h := Option.some.inj h
        subst h
        rfl
      · show At Tryd.prog Tryd.f43 0 11 ⟨[(1, oc (.ptr 0 0)), (3, oc (.d (.str e830.1)))], [], [(0, [zi e830.2.1, zi e830.2.2.1, zi e830.2.2.2.1, zi e830.2.2.2.2.1, zi e830.2.2.2.2.2.1, zi e830.2.2.2.2.2.2.1, .d (.sl (.int .u8) e830.2.2.2.2.2.2.2)])], 1⟩ _
        rcases iteS h with ⟨b831_4, h⟩ | ⟨b831_4, h⟩
        · have h := Option.some.inj h
          subst h
          exact At.fin hm ht ⟨[(4, .b true)], [], [], [2], []⟩ [((((e830.2.2.2.2.2.2.2.length : Nat) : Int) : Int) == 0) = true] (by kernel_rfl) ⟨b831_4, trivial⟩
        · obtain ⟨r831_0, cr831_0, h⟩ := bindS h
          have h := Option.some.inj h
          subst h
          exact At.fin hm ht ⟨[(4, .b false), (6, .call [] [] (f72_strings_IndexByte_out r831_0))], [], [], [2], []⟩ [((((e830.2.2.2.2.2.2.2.length : Nat) : Int) : Int) == 0) = false, FnOK Tryd.prog 72 (f72_strings_IndexByte_in e830.1 98) (f72_strings_IndexByte_out r831_0)] (by kernel_rfl) ⟨b831_4, (f72_strings_IndexByte_ok e830.1 98 r831_0 cr831_0), trivial⟩
/-! brougham/broughamlaw25.ScriptWrites -/
def f9_broughamlaw25_ScriptWrites_in (l : List (Int × Int × Int × Int × Int × Int × List Int)) (m : List (Int × Int × Int × Int × Int × Int × List Int)) : Inn := ⟨[.c (.d (.sl (.pair (.int .i64) (.pair (.int .i64) (.pair (.int .i64) (.pair (.int .i64) (.pair (.int .i64) (.pair (.int .i64) (.slice (.int .u8)))))))) l)), .c (.d (.sl (.pair (.int .i64) (.pair (.int .i64) (.pair (.int .i64) (.pair (.int .i64) (.pair (.int .i64) (.pair (.int .i64) (.slice (.int .u8)))))))) m))], [], [], 0⟩
def f9_broughamlaw25_ScriptWrites_out (r : Bool) : Out := ⟨oc (.d (.bool r)), [], [], 0⟩
def f9_broughamlaw25_ScriptWrites_L8 : Nat → (List (Int × Int × Int × Int × Int × Int × List Int)) → Int → Option ((Bool) ⊕ (Unit))
  | 0, _, _ => none
  | n + 1, l, i =>
    if (decide ((i : Int) < ((l.length : Nat) : Int))) = true then
      if (0 : Int) ≤ i ∧ i < (((l).length : Nat) : Int) then
      (f43_script_Right n ((l.getD i.toNat (0, (0, (0, (0, (0, (0, []))))))).1) (((l.getD i.toNat (0, (0, (0, (0, (0, (0, []))))))).2).1) ((((l.getD i.toNat (0, (0, (0, (0, (0, (0, []))))))).2).2).1) (((((l.getD i.toNat (0, (0, (0, (0, (0, (0, []))))))).2).2).2).1) ((((((l.getD i.toNat (0, (0, (0, (0, (0, (0, []))))))).2).2).2).2).1) (((((((l.getD i.toNat (0, (0, (0, (0, (0, (0, []))))))).2).2).2).2).2).1) (((((((l.getD i.toNat (0, (0, (0, (0, (0, (0, []))))))).2).2).2).2).2).2)).bind fun r775_1 =>
      if (0 : Int) ≤ i ∧ i < (((l).length : Nat) : Int) then
      (f44_broughamref25_Right n ((l.getD i.toNat (0, (0, (0, (0, (0, (0, []))))))).1) (((l.getD i.toNat (0, (0, (0, (0, (0, (0, []))))))).2).1) ((((l.getD i.toNat (0, (0, (0, (0, (0, (0, []))))))).2).2).1) (((((l.getD i.toNat (0, (0, (0, (0, (0, (0, []))))))).2).2).2).1) ((((((l.getD i.toNat (0, (0, (0, (0, (0, (0, []))))))).2).2).2).2).1) (((((((l.getD i.toNat (0, (0, (0, (0, (0, (0, []))))))).2).2).2).2).2).1) (((((((l.getD i.toNat (0, (0, (0, (0, (0, (0, []))))))).2).2).2).2).2).2)).bind fun r775_3 =>
      if (!(r775_1 == r775_3)) = true then
        some (.inl false)
      else
        f9_broughamlaw25_ScriptWrites_L8 n l (IntKind.wrap .i64 (i + 1))
      else none
      else none
    else
      some (.inr ())
def f9_broughamlaw25_ScriptWrites_L8_k (w : (Bool) ⊕ (Unit)) (o : Out) : Prop := match w with
  | .inl e => o = f9_broughamlaw25_ScriptWrites_out e
  | .inr e => At Tryd.prog Tryd.f9 0 12 ⟨[], [], [], 0⟩ o
theorem f9_broughamlaw25_ScriptWrites_L8_ok (n : Nat) : ∀ (l : List (Int × Int × Int × Int × Int × Int × List Int)) (i : Int) (w : (Bool) ⊕ (Unit)) (h : f9_broughamlaw25_ScriptWrites_L8 n l i = some w) (o : Out) (hk : f9_broughamlaw25_ScriptWrites_L8_k w o), At Tryd.prog Tryd.f9 0 8 ⟨[(0, oc (.d (.sl (.pair (.int .i64) (.pair (.int .i64) (.pair (.int .i64) (.pair (.int .i64) (.pair (.int .i64) (.pair (.int .i64) (.slice (.int .u8)))))))) l))), (9, oc (zi i))], [], [], 0⟩ o := by
  induction n with
  | zero => intro l i w h; rw [f9_broughamlaw25_ScriptWrites_L8] at h; cases h
  | succ n ih =>
    intro l i w h o hk
    rw [f9_broughamlaw25_ScriptWrites_L8] at h
    rcases iteS h with ⟨b774_e0, h⟩ | ⟨b774_e0, h⟩
    · refine At.step hm ht ⟨[], [true], [], [0, 9], []⟩ 10 ⟨[(0, oc (.d (.sl (.pair (.int .i64) (.pair (.int .i64) (.pair (.int .i64) (.pair (.int .i64) (.pair (.int .i64) (.pair (.int .i64) (.slice (.int .u8)))))))) l))), (9, oc (zi i))], [], [], 0⟩ [(decide ((i : Int) < ((l.length : Nat) : Int))) = true] (by kernel_rfl) ⟨b774_e0, trivial⟩ ?_
      obtain ⟨g775_0, h⟩ := ifS h
      obtain ⟨r775_1, cr775_1, h⟩ := bindS h
      obtain ⟨g775_2, h⟩ := ifS h
      obtain ⟨r775_3, cr775_3, h⟩ := bindS h
      rcases iteS h with ⟨b775_e0, h⟩ | ⟨b775_e0, h⟩
      · refine At.step hm ht ⟨[(4, .call [] [] (f43_script_Right_out r775_1)), (9, .call [] [] (f44_broughamref25_Right_out r775_3))], [true], [], [], []⟩ 11 ⟨[], [], [], 0⟩ [(0 : Int) ≤ i ∧ i < (((l).length : Nat) : Int), FnOK Tryd.prog 43 (f43_script_Right_in ((l.getD i.toNat (0, (0, (0, (0, (0, (0, []))))))).1) (((l.getD i.toNat (0, (0, (0, (0, (0, (0, []))))))).2).1) ((((l.getD i.toNat (0, (0, (0, (0, (0, (0, []))))))).2).2).1) (((((l.getD i.toNat (0, (0, (0, (0, (0, (0, []))))))).2).2).2).1) ((((((l.getD i.toNat (0, (0, (0, (0, (0, (0, []))))))).2).2).2).2).1) (((((((l.getD i.toNat (0, (0, (0, (0, (0, (0, []))))))).2).2).2).2).2).1) (((((((l.getD i.toNat (0, (0, (0, (0, (0, (0, []))))))).2).2).2).2).2).2)) (f43_script_Right_out r775_1), (0 : Int) ≤ i ∧ i < (((l).length : Nat) : Int), FnOK Tryd.prog 44 (f44_broughamref25_Right_in ((l.getD i.toNat (0, (0, (0, (0, (0, (0, []))))))).1) (((l.getD i.toNat (0, (0, (0, (0, (0, (0, []))))))).2).1) ((((l.getD i.toNat (0, (0, (0, (0, (0, (0, []))))))).2).2).1) (((((l.getD i.toNat (0, (0, (0, (0, (0, (0, []))))))).2).2).2).1) ((((((l.getD i.toNat (0, (0, (0, (0, (0, (0, []))))))).2).2).2).2).1) (((((((l.getD i.toNat (0, (0, (0, (0, (0, (0, []))))))).2).2).2).2).2).1) (((((((l.getD i.toNat (0, (0, (0, (0, (0, (0, []))))))).2).2).2).2).2).2)) (f44_broughamref25_Right_out r775_3), (!(r775_1 == r775_3)) = true] (by kernel_rfl) ⟨g775_0, (f43_script_Right_ok n ((l.getD i.toNat (0, (0, (0, (0, (0, (0, []))))))).1) (((l.getD i.toNat (0, (0, (0, (0, (0, (0, []))))))).2).1) ((((l.getD i.toNat (0, (0, (0, (0, (0, (0, []))))))).2).2).1) (((((l.getD i.toNat (0, (0, (0, (0, (0, (0, []))))))).2).2).2).1) ((((((l.getD i.toNat (0, (0, (0, (0, (0, (0, []))))))).2).2).2).2).1) (((((((l.getD i.toNat (0, (0, (0, (0, (0, (0, []))))))).2).2).2).2).2).1) (((((((l.getD i.toNat (0, (0, (0, (0, (0, (0, []))))))).2).2).2).2).2).2) r775_1 cr775_1), g775_2, (f44_broughamref25_Right_ok n ((l.getD i.toNat (0, (0, (0, (0, (0, (0, []))))))).1) (((l.getD i.toNat (0, (0, (0, (0, (0, (0, []))))))).2).1) ((((l.getD i.toNat (0, (0, (0, (0, (0, (0, []))))))).2).2).1) (((((l.getD i.toNat (0, (0, (0, (0, (0, (0, []))))))).2).2).2).1) ((((((l.getD i.toNat (0, (0, (0, (0, (0, (0, []))))))).2).2).2).2).1) (((((((l.getD i.toNat (0, (0, (0, (0, (0, (0, []))))))).2).2).2).2).2).1) (((((((l.getD i.toNat (0, (0, (0, (0, (0, (0, []))))))).2).2).2).2).2).2) r775_3 cr775_3), b775_e0, trivial⟩ ?_
        have h := Option.some.inj h
        subst h
        have hk : o = f9_broughamlaw25_ScriptWrites_out false := hk
        subst hk
        exact At.fin hm ht ⟨[], [], [], [4], []⟩ [] (by kernel_rfl) trivial
      · refine At.step hm ht ⟨[(4, .call [] [] (f43_script_Right_out r775_1)), (9, .call [] [] (f44_broughamref25_Right_out r775_3))], [false], [], [0, 9], []⟩ 9 ⟨[(0, oc (.d (.sl (.pair (.int .i64) (.pair (.int .i64) (.pair (.int .i64) (.pair (.int .i64) (.pair (.int .i64) (.pair (.int .i64) (.slice (.int .u8)))))))) l))), (9, oc (zi i))], [], [], 0⟩ [(0 : Int) ≤ i ∧ i < (((l).length : Nat) : Int), FnOK Tryd.prog 43 (f43_script_Right_in ((l.getD i.toNat (0, (0, (0, (0, (0, (0, []))))))).1) (((l.getD i.toNat (0, (0, (0, (0, (0, (0, []))))))).2).1) ((((l.getD i.toNat (0, (0, (0, (0, (0, (0, []))))))).2).2).1) (((((l.getD i.toNat (0, (0, (0, (0, (0, (0, []))))))).2).2).2).1) ((((((l.getD i.toNat (0, (0, (0, (0, (0, (0, []))))))).2).2).2).2).1) (((((((l.getD i.toNat (0, (0, (0, (0, (0, (0, []))))))).2).2).2).2).2).1) (((((((l.getD i.toNat (0, (0, (0, (0, (0, (0, []))))))).2).2).2).2).2).2)) (f43_script_Right_out r775_1), (0 : Int) ≤ i ∧ i < (((l).length : Nat) : Int), FnOK Tryd.prog 44 (f44_broughamref25_Right_in ((l.getD i.toNat (0, (0, (0, (0, (0, (0, []))))))).1) (((l.getD i.toNat (0, (0, (0, (0, (0, (0, []))))))).2).1) ((((l.getD i.toNat (0, (0, (0, (0, (0, (0, []))))))).2).2).1) (((((l.getD i.toNat (0, (0, (0, (0, (0, (0, []))))))).2).2).2).1) ((((((l.getD i.toNat (0, (0, (0, (0, (0, (0, []))))))).2).2).2).2).1) (((((((l.getD i.toNat (0, (0, (0, (0, (0, (0, []))))))).2).2).2).2).2).1) (((((((l.getD i.toNat (0, (0, (0, (0, (0, (0, []))))))).2).2).2).2).2).2)) (f44_broughamref25_Right_out r775_3), (!(r775_1 == r775_3)) = false] (by kernel_rfl) ⟨g775_0, (f43_script_Right_ok n ((l.getD i.toNat (0, (0, (0, (0, (0, (0, []))))))).1) (((l.getD i.toNat (0, (0, (0, (0, (0, (0, []))))))).2).1) ((((l.getD i.toNat (0, (0, (0, (0, (0, (0, []))))))).2).2).1) (((((l.getD i.toNat (0, (0, (0, (0, (0, (0, []))))))).2).2).2).1) ((((((l.getD i.toNat (0, (0, (0, (0, (0, (0, []))))))).2).2).2).2).1) (((((((l.getD i.toNat (0, (0, (0, (0, (0, (0, []))))))).2).2).2).2).2).1) (((((((l.getD i.toNat (0, (0, (0, (0, (0, (0, []))))))).2).2).2).2).2).2) r775_1 cr775_1), g775_2, (f44_broughamref25_Right_ok n ((l.getD i.toNat (0, (0, (0, (0, (0, (0, []))))))).1) (((l.getD i.toNat (0, (0, (0, (0, (0, (0, []))))))).2).1) ((((l.getD i.toNat (0, (0, (0, (0, (0, (0, []))))))).2).2).1) (((((l.getD i.toNat (0, (0, (0, (0, (0, (0, []))))))).2).2).2).1) ((((((l.getD i.toNat (0, (0, (0, (0, (0, (0, []))))))).2).2).2).2).1) (((((((l.getD i.toNat (0, (0, (0, (0, (0, (0, []))))))).2).2).2).2).2).1) (((((((l.getD i.toNat (0, (0, (0, (0, (0, (0, []))))))).2).2).2).2).2).2) r775_3 cr775_3), b775_e0, trivial⟩ ?_
        refine At.step hm ht ⟨[], [], [], [0, 9], []⟩ 8 ⟨[(0, oc (.d (.sl (.pair (.int .i64) (.pair (.int .i64) (.pair (.int .i64) (.pair (.int .i64) (.pair (.int .i64) (.pair (.int .i64) (.slice (.int .u8)))))))) l))), (9, oc (zi (IntKind.wrap .i64 (i + 1))))], [], [], 0⟩ [] (by kernel_rfl) trivial ?_
        exact ih l (IntKind.wrap .i64 (i + 1)) w h o hk
    · refine At.step hm ht ⟨[], [false], [], [], []⟩ 12 ⟨[], [], [], 0⟩ [(decide ((i : Int) < ((l.length : Nat) : Int))) = false] (by kernel_rfl) ⟨b774_e0, trivial⟩ ?_
      have h := Option.some.inj h
      subst h
      exact hk
def f9_broughamlaw25_ScriptWrites (n : Nat) (l : List (Int × Int × Int × Int × Int × Int × List Int)) (m : List (Int × Int × Int × Int × Int × Int × List Int)) : Option (Bool) :=
  (f39_broughamlaw25_great n l).bind fun r640_0 =>
  if r640_0 = true then
    some true
  else
    (f39_broughamlaw25_great n m).bind fun r640_1 =>
    if r640_1 = true then
      some true
    else
      (f40_script_Text n l).bind fun r655_0 =>
      (f41_broughamref25_Text n l).bind fun r656_0 =>
      if (!(r655_0.1.toList == r656_0.1.toList)) = true then
        some false
      else
        if ((r655_0.2 : Int) != r656_0.2) = true then
          some false
        else
          (f42_script_Same n l m).bind fun r749_0 =>
          (f13_broughamref25_Same n l m).bind fun r749_1 =>
          if (!(r749_0 == r749_1)) = true then
            some false
          else
            (f9_broughamlaw25_ScriptWrites_L8 n l 0).bind fun w834 =>
            match w834 with
            | .inl e835 =>
              some e835
            | .inr e836 =>
              (f14_broughamlaw25_alive n).bind fun r837_0 =>
              some r837_0
theorem f9_broughamlaw25_ScriptWrites_ok (n : Nat) (l : List (Int × Int × Int × Int × Int × Int × List Int)) (m : List (Int × Int × Int × Int × Int × Int × List Int)) (r : Bool) (h : f9_broughamlaw25_ScriptWrites n l m = some r) : FnOK Tryd.prog 9 (f9_broughamlaw25_ScriptWrites_in l m) (f9_broughamlaw25_ScriptWrites_out r) := by
  unfold f9_broughamlaw25_ScriptWrites at h
  refine At.fn (r := 0) Tryd.func9 rfl (by kernel_rfl) rfl rfl (by kernel_rfl) ?_
  show At Tryd.prog Tryd.f9 0 0 ⟨[(0, oc (.d (.sl (.pair (.int .i64) (.pair (.int .i64) (.pair (.int .i64) (.pair (.int .i64) (.pair (.int .i64) (.pair (.int .i64) (.slice (.int .u8)))))))) l))), (1, oc (.d (.sl (.pair (.int .i64) (.pair (.int .i64) (.pair (.int .i64) (.pair (.int .i64) (.pair (.int .i64) (.pair (.int .i64) (.slice (.int .u8)))))))) m)))], [], [], 0⟩ _
  refine At.step hm ht ⟨[], [], [], [0, 1], []⟩ 1 ⟨[(0, oc (.d (.sl (.pair (.int .i64) (.pair (.int .i64) (.pair (.int .i64) (.pair (.int .i64) (.pair (.int .i64) (.pair (.int .i64) (.slice (.int .u8)))))))) l))), (1, oc (.d (.sl (.pair (.int .i64) (.pair (.int .i64) (.pair (.int .i64) (.pair (.int .i64) (.pair (.int .i64) (.pair (.int .i64) (.slice (.int .u8)))))))) m)))], [], [], 0⟩ [] (by kernel_rfl) trivial ?_
  obtain ⟨r640_0, cr640_0, h⟩ := bindS h
  rcases iteS h with ⟨b640_2, h⟩ | ⟨b640_2, h⟩
  · refine At.step hm ht ⟨[(1, .call [] [] (f39_broughamlaw25_great_out r640_0)), (2, .b true)], [true], [], [], []⟩ 2 ⟨[], [], [], 0⟩ [FnOK Tryd.prog 39 (f39_broughamlaw25_great_in l) (f39_broughamlaw25_great_out r640_0), r640_0 = true, true = true] (by kernel_rfl) ⟨(f39_broughamlaw25_great_ok n l r640_0 cr640_0), b640_2, rfl, trivial⟩ ?_
    have h := Option.some.inj h
    subst h
    exact At.fin hm ht ⟨[], [], [], [4], []⟩ [] (by kernel_rfl) trivial
  · obtain ⟨r640_1, cr640_1, h⟩ := bindS h
    rcases iteS h with ⟨b640_e0, h⟩ | ⟨b640_e0, h⟩
    · refine At.step hm ht ⟨[(1, .call [] [] (f39_broughamlaw25_great_out r640_0)), (2, .b false), (4, .call [] [] (f39_broughamlaw25_great_out r640_1))], [true], [], [], []⟩ 2 ⟨[], [], [], 0⟩ [FnOK Tryd.prog 39 (f39_broughamlaw25_great_in l) (f39_broughamlaw25_great_out r640_0), r640_0 = false, FnOK Tryd.prog 39 (f39_broughamlaw25_great_in m) (f39_broughamlaw25_great_out r640_1), r640_1 = true] (by kernel_rfl) ⟨(f39_broughamlaw25_great_ok n l r640_0 cr640_0), b640_2, (f39_broughamlaw25_great_ok n m r640_1 cr640_1), b640_e0, trivial⟩ ?_
      have h := Option.some.inj h
      subst h
      exact At.fin hm ht ⟨[], [], [], [4], []⟩ [] (by kernel_rfl) trivial
    · refine At.step hm ht ⟨[(1, .call [] [] (f39_broughamlaw25_great_out r640_0)), (2, .b false), (4, .call [] [] (f39_broughamlaw25_great_out r640_1))], [false], [], [0, 1], []⟩ 3 ⟨[(0, oc (.d (.sl (.pair (.int .i64) (.pair (.int .i64) (.pair (.int .i64) (.pair (.int .i64) (.pair (.int .i64) (.pair (.int .i64) (.slice (.int .u8)))))))) l))), (1, oc (.d (.sl (.pair (.int .i64) (.pair (.int .i64) (.pair (.int .i64) (.pair (.int .i64) (.pair (.int .i64) (.pair (.int .i64) (.slice (.int .u8)))))))) m)))], [], [], 0⟩ [FnOK Tryd.prog 39 (f39_broughamlaw25_great_in l) (f39_broughamlaw25_great_out r640_0), r640_0 = false, FnOK Tryd.prog 39 (f39_broughamlaw25_great_in m) (f39_broughamlaw25_great_out r640_1), r640_1 = false] (by kernel_rfl) ⟨(f39_broughamlaw25_great_ok n l r640_0 cr640_0), b640_2, (f39_broughamlaw25_great_ok n m r640_1 cr640_1), b640_e0, trivial⟩ ?_
      obtain ⟨r655_0, cr655_0, h⟩ := bindS h
      refine At.step hm ht ⟨[(1, .call [] [] (f40_script_Text_out r655_0))], [], [], [0, 1, 5, 6], []⟩ 4 ⟨[(0, oc (.d (.sl (.pair (.int .i64) (.pair (.int .i64) (.pair (.int .i64) (.pair (.int .i64) (.pair (.int .i64) (.pair (.int .i64) (.slice (.int .u8)))))))) l))), (1, oc (.d (.sl (.pair (.int .i64) (.pair (.int .i64) (.pair (.int .i64) (.pair (.int .i64) (.pair (.int .i64) (.pair (.int .i64) (.slice (.int .u8)))))))) m))), (5, oc (.d (.str r655_0.1))), (6, oc (zi r655_0.2))], [], [], 0⟩ [FnOK Tryd.prog 40 (f40_script_Text_in l) (f40_script_Text_out r655_0)] (by kernel_rfl) ⟨(f40_script_Text_ok n l r655_0 cr655_0), trivial⟩ ?_
      obtain ⟨r656_0, cr656_0, h⟩ := bindS h
      refine At.step hm ht ⟨[(1, .call [] [] (f41_broughamref25_Text_out r656_0))], [], [], [0, 1, 5, 6, 7, 8], []⟩ 5 ⟨[(0, oc (.d (.sl (.pair (.int .i64) (.pair (.int .i64) (.pair (.int .i64) (.pair (.int .i64) (.pair (.int .i64) (.pair (.int .i64) (.slice (.int .u8)))))))) l))), (1, oc (.d (.sl (.pair (.int .i64) (.pair (.int .i64) (.pair (.int .i64) (.pair (.int .i64) (.pair (.int .i64) (.pair (.int .i64) (.slice (.int .u8)))))))) m))), (5, oc (.d (.str r655_0.1))), (6, oc (zi r655_0.2)), (7, oc (.d (.str r656_0.1))), (8, oc (zi r656_0.2))], [], [], 0⟩ [FnOK Tryd.prog 41 (f41_broughamref25_Text_in l) (f41_broughamref25_Text_out r656_0)] (by kernel_rfl) ⟨(f41_broughamref25_Text_ok n l r656_0 cr656_0), trivial⟩ ?_
      rcases iteS h with ⟨b749_3, h⟩ | ⟨b749_3, h⟩
      · refine At.step hm ht ⟨[(3, .b true)], [true], [], [], []⟩ 6 ⟨[], [], [], 0⟩ [(!(r655_0.1.toList == r656_0.1.toList)) = true, true = true] (by kernel_rfl) ⟨b749_3, rfl, trivial⟩ ?_
        have h := Option.some.inj h
        subst h
        exact At.fin hm ht ⟨[], [], [], [4], []⟩ [] (by kernel_rfl) trivial
      · rcases iteS h with ⟨b749_8, h⟩ | ⟨b749_8, h⟩
        · refine At.step hm ht ⟨[(3, .b false), (8, .b true)], [true], [], [], []⟩ 6 ⟨[], [], [], 0⟩ [(!(r655_0.1.toList == r656_0.1.toList)) = false, ((r655_0.2 : Int) != r656_0.2) = true, true = true] (by kernel_rfl) ⟨b749_3, b749_8, rfl, trivial⟩ ?_
          have h := Option.some.inj h
          subst h
          exact At.fin hm ht ⟨[], [], [], [4], []⟩ [] (by kernel_rfl) trivial
        · obtain ⟨r749_0, cr749_0, h⟩ := bindS h
          obtain ⟨r749_1, cr749_1, h⟩ := bindS h
          rcases iteS h with ⟨b749_e0, h⟩ | ⟨b749_e0, h⟩
          · refine At.step hm ht ⟨[(3, .b false), (8, .b false), (11, .call [] [] (f42_script_Same_out r749_0)), (14, .call [] [] (f13_broughamref25_Same_out r749_1))], [true], [], [], []⟩ 6 ⟨[], [], [], 0⟩ [(!(r655_0.1.toList == r656_0.1.toList)) = false, ((r655_0.2 : Int) != r656_0.2) = false, FnOK Tryd.prog 42 (f42_script_Same_in l m) (f42_script_Same_out r749_0), FnOK Tryd.prog 13 (f13_broughamref25_Same_in l m) (f13_broughamref25_Same_out r749_1), (!(r749_0 == r749_1)) = true] (by kernel_rfl) ⟨b749_3, b749_8, (f42_script_Same_ok n l m r749_0 cr749_0), (f13_broughamref25_Same_ok n l m r749_1 cr749_1), b749_e0, trivial⟩ ?_
            have h := Option.some.inj h
            subst h
            exact At.fin hm ht ⟨[], [], [], [4], []⟩ [] (by kernel_rfl) trivial
          · refine At.step hm ht ⟨[(3, .b false), (8, .b false), (11, .call [] [] (f42_script_Same_out r749_0)), (14, .call [] [] (f13_broughamref25_Same_out r749_1))], [false], [], [0], []⟩ 7 ⟨[(0, oc (.d (.sl (.pair (.int .i64) (.pair (.int .i64) (.pair (.int .i64) (.pair (.int .i64) (.pair (.int .i64) (.pair (.int .i64) (.slice (.int .u8)))))))) l)))], [], [], 0⟩ [(!(r655_0.1.toList == r656_0.1.toList)) = false, ((r655_0.2 : Int) != r656_0.2) = false, FnOK Tryd.prog 42 (f42_script_Same_in l m) (f42_script_Same_out r749_0), FnOK Tryd.prog 13 (f13_broughamref25_Same_in l m) (f13_broughamref25_Same_out r749_1), (!(r749_0 == r749_1)) = false] (by kernel_rfl) ⟨b749_3, b749_8, (f42_script_Same_ok n l m r749_0 cr749_0), (f13_broughamref25_Same_ok n l m r749_1 cr749_1), b749_e0, trivial⟩ ?_
            refine At.step hm ht ⟨[], [], [], [0, 9], []⟩ 8 ⟨[(0, oc (.d (.sl (.pair (.int .i64) (.pair (.int .i64) (.pair (.int .i64) (.pair (.int .i64) (.pair (.int .i64) (.pair (.int .i64) (.slice (.int .u8)))))))) l))), (9, oc (zi 0))], [], [], 0⟩ [] (by kernel_rfl) trivial ?_
            obtain ⟨w834, cw834, h⟩ := bindS h
            refine f9_broughamlaw25_ScriptWrites_L8_ok n l 0 w834 cw834 _ ?_
            rcases w834 with e835 | e836
            · have h := Option.some.inj h
              subst h
              rfl
            · show At Tryd.prog Tryd.f9 0 12 ⟨[], [], [], 0⟩ _
              obtain ⟨r837_0, cr837_0, h⟩ := bindS h
              have h := Option.some.inj h
              subst h
              exact At.fin hm ht ⟨[(0, .call [] [] (f14_broughamlaw25_alive_out r837_0))], [], [], [4], []⟩ [FnOK Tryd.prog 14 (f14_broughamlaw25_alive_in) (f14_broughamlaw25_alive_out r837_0)] (by kernel_rfl) ⟨(f14_broughamlaw25_alive_ok n r837_0 cr837_0), trivial⟩
end Go.Proofs.YtakamchmiakicaaDoorF25
