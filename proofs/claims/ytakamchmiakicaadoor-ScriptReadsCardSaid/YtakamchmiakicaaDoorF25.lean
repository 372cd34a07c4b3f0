/- What the functions compute, and that they do: printed by a program of this session (zgen.py), proved by Zed. -/
import Derived.Test.YtakamchmiakicaaDoorF25x0
namespace Go.Proofs.YtakamchmiakicaaDoorF25
open Go Zed Go.Proofs.YtakamchmiakicaaDoorLeaf
set_option maxRecDepth 100000
set_option linter.unusedVariables false
/-! brougham/broughamref25.Same -/
def f13_broughamref25_Same_in (a : List (Int × Int × Int × Int × Int × Int × List Int)) (b : List (Int × Int × Int × Int × Int × Int × List Int)) : Inn := ⟨[.c (.d (.sl (.pair (.int .i64) (.pair (.int .i64) (.pair (.int .i64) (.pair (.int .i64) (.pair (.int .i64) (.pair (.int .i64) (.slice (.int .u8)))))))) a)), .c (.d (.sl (.pair (.int .i64) (.pair (.int .i64) (.pair (.int .i64) (.pair (.int .i64) (.pair (.int .i64) (.pair (.int .i64) (.slice (.int .u8)))))))) b))], [], [], 0⟩
def f13_broughamref25_Same_out (r : Bool) : Out := ⟨.one (.c (.d (.bool r))), [], [], 0⟩
def f13_broughamref25_Same_L4 : Nat → (List (Int × Int × Int × Int × Int × Int × List Int)) → (List (Int × Int × Int × Int × Int × Int × List Int)) → Int → Option ((Bool) ⊕ (Unit))
  | 0, _, _, _ => none
  | n + 1, a, b, i =>
    if (decide ((i : Int) < ((a.length : Nat) : Int))) = true then
      if (0 : Int) ≤ i ∧ i < (((a).length : Nat) : Int) then
      if (0 : Int) ≤ i ∧ i < (((b).length : Nat) : Int) then
      if ((((a.getD i.toNat (0, (0, (0, (0, (0, (0, []))))))).1) : Int) != ((b.getD i.toNat (0, (0, (0, (0, (0, (0, []))))))).1)) = true then
        some (.inl false)
      else
        if (((((a.getD i.toNat (0, (0, (0, (0, (0, (0, []))))))).2).1) : Int) != (((b.getD i.toNat (0, (0, (0, (0, (0, (0, []))))))).2).1)) = true then
          some (.inl false)
        else
          if ((((((a.getD i.toNat (0, (0, (0, (0, (0, (0, []))))))).2).2).1) : Int) != ((((b.getD i.toNat (0, (0, (0, (0, (0, (0, []))))))).2).2).1)) = true then
            some (.inl false)
          else
            if (((((((a.getD i.toNat (0, (0, (0, (0, (0, (0, []))))))).2).2).2).1) : Int) != (((((b.getD i.toNat (0, (0, (0, (0, (0, (0, []))))))).2).2).2).1)) = true then
              some (.inl false)
            else
              if ((((((((a.getD i.toNat (0, (0, (0, (0, (0, (0, []))))))).2).2).2).2).1) : Int) != ((((((b.getD i.toNat (0, (0, (0, (0, (0, (0, []))))))).2).2).2).2).1)) = true then
                some (.inl false)
              else
                if (((((((((a.getD i.toNat (0, (0, (0, (0, (0, (0, []))))))).2).2).2).2).2).1) : Int) != (((((((b.getD i.toNat (0, (0, (0, (0, (0, (0, []))))))).2).2).2).2).2).1)) = true then
                  some (.inl false)
                else
                  if (!((strOfNums (((((((a.getD i.toNat (0, (0, (0, (0, (0, (0, []))))))).2).2).2).2).2).2)).toList == (strOfNums (((((((b.getD i.toNat (0, (0, (0, (0, (0, (0, []))))))).2).2).2).2).2).2)).toList)) = true then
                    some (.inl false)
                  else
                    f13_broughamref25_Same_L4 n a b (IntKind.wrap .i64 (i + 1))
      else none
      else none
    else
      some (.inr ())
def f13_broughamref25_Same_L4_k (w : (Bool) ⊕ (Unit)) (o : Out) : Prop := match w with
  | .inl e => o = f13_broughamref25_Same_out e
  | .inr e => At Go.Proofs.Tryd.prog Go.Proofs.Tryd.f13 0 9 ⟨[], [], [], 0⟩ o
theorem f13_broughamref25_Same_L4_ok (n : Nat) : ∀ (a : List (Int × Int × Int × Int × Int × Int × List Int)) (b : List (Int × Int × Int × Int × Int × Int × List Int)) (i : Int) (w : (Bool) ⊕ (Unit)) (h : f13_broughamref25_Same_L4 n a b i = some w) (o : Out) (hk : f13_broughamref25_Same_L4_k w o), At Go.Proofs.Tryd.prog Go.Proofs.Tryd.f13 0 4 ⟨[(0, .one (.c (.d (.sl (.pair (.int .i64) (.pair (.int .i64) (.pair (.int .i64) (.pair (.int .i64) (.pair (.int .i64) (.pair (.int .i64) (.slice (.int .u8)))))))) a)))), (1, .one (.c (.d (.sl (.pair (.int .i64) (.pair (.int .i64) (.pair (.int .i64) (.pair (.int .i64) (.pair (.int .i64) (.pair (.int .i64) (.slice (.int .u8)))))))) b)))), (5, .one (.c (.d (.int .i64 i))))], [], [], 0⟩ o := by
  induction n with
  | zero => intro a b i w h; rw [f13_broughamref25_Same_L4] at h; cases h
  | succ n ih =>
    intro a b i w h o hk
    rw [f13_broughamref25_Same_L4] at h
    rcases iteS h with ⟨b620_e0, h⟩ | ⟨b620_e0, h⟩
    · refine At.step hm ht ⟨[], [true], [], [0, 1, 5], []⟩ 6 ⟨[(0, .one (.c (.d (.sl (.pair (.int .i64) (.pair (.int .i64) (.pair (.int .i64) (.pair (.int .i64) (.pair (.int .i64) (.pair (.int .i64) (.slice (.int .u8)))))))) a)))), (1, .one (.c (.d (.sl (.pair (.int .i64) (.pair (.int .i64) (.pair (.int .i64) (.pair (.int .i64) (.pair (.int .i64) (.pair (.int .i64) (.slice (.int .u8)))))))) b)))), (5, .one (.c (.d (.int .i64 i))))], [], [], 0⟩ [(decide ((i : Int) < ((a.length : Nat) : Int))) = true] (by kernel_rfl) ⟨b620_e0, trivial⟩ ?_
      obtain ⟨g621_0, h⟩ := ifS h
      obtain ⟨g621_1, h⟩ := ifS h
      refine At.step hm ht ⟨[], [], [], [0, 1, 5, 6, 7], [8, 9]⟩ 7 ⟨[(0, .one (.c (.d (.sl (.pair (.int .i64) (.pair (.int .i64) (.pair (.int .i64) (.pair (.int .i64) (.pair (.int .i64) (.pair (.int .i64) (.slice (.int .u8)))))))) a)))), (1, .one (.c (.d (.sl (.pair (.int .i64) (.pair (.int .i64) (.pair (.int .i64) (.pair (.int .i64) (.pair (.int .i64) (.pair (.int .i64) (.slice (.int .u8)))))))) b)))), (5, .one (.c (.d (.int .i64 i)))), (6, .one (.c (.ptr 0 0))), (7, .one (.c (.ptr 1 0)))], [], [(0, [.d (.int .i64 ((a.getD i.toNat (0, (0, (0, (0, (0, (0, []))))))).1)), .d (.int .i64 (((a.getD i.toNat (0, (0, (0, (0, (0, (0, []))))))).2).1)), .d (.int .i64 ((((a.getD i.toNat (0, (0, (0, (0, (0, (0, []))))))).2).2).1)), .d (.int .i64 (((((a.getD i.toNat (0, (0, (0, (0, (0, (0, []))))))).2).2).2).1)), .d (.int .i64 ((((((a.getD i.toNat (0, (0, (0, (0, (0, (0, []))))))).2).2).2).2).1)), .d (.int .i64 (((((((a.getD i.toNat (0, (0, (0, (0, (0, (0, []))))))).2).2).2).2).2).1)), .d (.sl (.int .u8) (((((((a.getD i.toNat (0, (0, (0, (0, (0, (0, []))))))).2).2).2).2).2).2))]), (1, [.d (.int .i64 ((b.getD i.toNat (0, (0, (0, (0, (0, (0, []))))))).1)), .d (.int .i64 (((b.getD i.toNat (0, (0, (0, (0, (0, (0, []))))))).2).1)), .d (.int .i64 ((((b.getD i.toNat (0, (0, (0, (0, (0, (0, []))))))).2).2).1)), .d (.int .i64 (((((b.getD i.toNat (0, (0, (0, (0, (0, (0, []))))))).2).2).2).1)), .d (.int .i64 ((((((b.getD i.toNat (0, (0, (0, (0, (0, (0, []))))))).2).2).2).2).1)), .d (.int .i64 (((((((b.getD i.toNat (0, (0, (0, (0, (0, (0, []))))))).2).2).2).2).2).1)), .d (.sl (.int .u8) (((((((b.getD i.toNat (0, (0, (0, (0, (0, (0, []))))))).2).2).2).2).2).2))])], 2⟩ [(0 : Int) ≤ i ∧ i < (((a).length : Nat) : Int), (0 : Int) ≤ i ∧ i < (((b).length : Nat) : Int), 0 + 7 ≤ 7, 0 + 7 ≤ 7] (by kernel_rfl) ⟨g621_0, g621_1, (by decide), (by decide), trivial⟩ ?_
      rcases iteS h with ⟨b622_5, h⟩ | ⟨b622_5, h⟩
      · refine At.step hm ht ⟨[(5, .b true)], [true], [], [], []⟩ 8 ⟨[], [], [], 0⟩ [((((a.getD i.toNat (0, (0, (0, (0, (0, (0, []))))))).1) : Int) != ((b.getD i.toNat (0, (0, (0, (0, (0, (0, []))))))).1)) = true, true = true] (by kernel_rfl) ⟨b622_5, rfl, trivial⟩ ?_
        have h := Option.some.inj h
        subst h
        have hk : o = f13_broughamref25_Same_out false := hk
        subst hk
        exact At.fin hm ht ⟨[], [], [], [4], []⟩ [] (by kernel_rfl) trivial
      · rcases iteS h with ⟨b622_12, h⟩ | ⟨b622_12, h⟩
        · refine At.step hm ht ⟨[(5, .b false), (12, .b true)], [true], [], [], []⟩ 8 ⟨[], [], [], 0⟩ [((((a.getD i.toNat (0, (0, (0, (0, (0, (0, []))))))).1) : Int) != ((b.getD i.toNat (0, (0, (0, (0, (0, (0, []))))))).1)) = false, (((((a.getD i.toNat (0, (0, (0, (0, (0, (0, []))))))).2).1) : Int) != (((b.getD i.toNat (0, (0, (0, (0, (0, (0, []))))))).2).1)) = true, true = true] (by kernel_rfl) ⟨b622_5, b622_12, rfl, trivial⟩ ?_
          have h := Option.some.inj h
          subst h
          have hk : o = f13_broughamref25_Same_out false := hk
          subst hk
          exact At.fin hm ht ⟨[], [], [], [4], []⟩ [] (by kernel_rfl) trivial
        · rcases iteS h with ⟨b622_19, h⟩ | ⟨b622_19, h⟩
          · refine At.step hm ht ⟨[(5, .b false), (12, .b false), (19, .b true)], [true], [], [], []⟩ 8 ⟨[], [], [], 0⟩ [((((a.getD i.toNat (0, (0, (0, (0, (0, (0, []))))))).1) : Int) != ((b.getD i.toNat (0, (0, (0, (0, (0, (0, []))))))).1)) = false, (((((a.getD i.toNat (0, (0, (0, (0, (0, (0, []))))))).2).1) : Int) != (((b.getD i.toNat (0, (0, (0, (0, (0, (0, []))))))).2).1)) = false, ((((((a.getD i.toNat (0, (0, (0, (0, (0, (0, []))))))).2).2).1) : Int) != ((((b.getD i.toNat (0, (0, (0, (0, (0, (0, []))))))).2).2).1)) = true, true = true] (by kernel_rfl) ⟨b622_5, b622_12, b622_19, rfl, trivial⟩ ?_
            have h := Option.some.inj h
            subst h
            have hk : o = f13_broughamref25_Same_out false := hk
            subst hk
            exact At.fin hm ht ⟨[], [], [], [4], []⟩ [] (by kernel_rfl) trivial
          · rcases iteS h with ⟨b622_26, h⟩ | ⟨b622_26, h⟩
            · refine At.step hm ht ⟨[(5, .b false), (12, .b false), (19, .b false), (26, .b true)], [true], [], [], []⟩ 8 ⟨[], [], [], 0⟩ [((((a.getD i.toNat (0, (0, (0, (0, (0, (0, []))))))).1) : Int) != ((b.getD i.toNat (0, (0, (0, (0, (0, (0, []))))))).1)) = false, (((((a.getD i.toNat (0, (0, (0, (0, (0, (0, []))))))).2).1) : Int) != (((b.getD i.toNat (0, (0, (0, (0, (0, (0, []))))))).2).1)) = false, ((((((a.getD i.toNat (0, (0, (0, (0, (0, (0, []))))))).2).2).1) : Int) != ((((b.getD i.toNat (0, (0, (0, (0, (0, (0, []))))))).2).2).1)) = false, (((((((a.getD i.toNat (0, (0, (0, (0, (0, (0, []))))))).2).2).2).1) : Int) != (((((b.getD i.toNat (0, (0, (0, (0, (0, (0, []))))))).2).2).2).1)) = true, true = true] (by kernel_rfl) ⟨b622_5, b622_12, b622_19, b622_26, rfl, trivial⟩ ?_
              have h := Option.some.inj h
              subst h
              have hk : o = f13_broughamref25_Same_out false := hk
              subst hk
              exact At.fin hm ht ⟨[], [], [], [4], []⟩ [] (by kernel_rfl) trivial
            · rcases iteS h with ⟨b622_33, h⟩ | ⟨b622_33, h⟩
              · refine At.step hm ht ⟨[(5, .b false), (12, .b false), (19, .b false), (26, .b false), (33, .b true)], [true], [], [], []⟩ 8 ⟨[], [], [], 0⟩ [((((a.getD i.toNat (0, (0, (0, (0, (0, (0, []))))))).1) : Int) != ((b.getD i.toNat (0, (0, (0, (0, (0, (0, []))))))).1)) = false, (((((a.getD i.toNat (0, (0, (0, (0, (0, (0, []))))))).2).1) : Int) != (((b.getD i.toNat (0, (0, (0, (0, (0, (0, []))))))).2).1)) = false, ((((((a.getD i.toNat (0, (0, (0, (0, (0, (0, []))))))).2).2).1) : Int) != ((((b.getD i.toNat (0, (0, (0, (0, (0, (0, []))))))).2).2).1)) = false, (((((((a.getD i.toNat (0, (0, (0, (0, (0, (0, []))))))).2).2).2).1) : Int) != (((((b.getD i.toNat (0, (0, (0, (0, (0, (0, []))))))).2).2).2).1)) = false, ((((((((a.getD i.toNat (0, (0, (0, (0, (0, (0, []))))))).2).2).2).2).1) : Int) != ((((((b.getD i.toNat (0, (0, (0, (0, (0, (0, []))))))).2).2).2).2).1)) = true, true = true] (by kernel_rfl) ⟨b622_5, b622_12, b622_19, b622_26, b622_33, rfl, trivial⟩ ?_
                have h := Option.some.inj h
                subst h
                have hk : o = f13_broughamref25_Same_out false := hk
                subst hk
                exact At.fin hm ht ⟨[], [], [], [4], []⟩ [] (by kernel_rfl) trivial
              · rcases iteS h with ⟨b622_40, h⟩ | ⟨b622_40, h⟩
                · refine At.step hm ht ⟨[(5, .b false), (12, .b false), (19, .b false), (26, .b false), (33, .b false), (40, .b true)], [true], [], [], []⟩ 8 ⟨[], [], [], 0⟩ [((((a.getD i.toNat (0, (0, (0, (0, (0, (0, []))))))).1) : Int) != ((b.getD i.toNat (0, (0, (0, (0, (0, (0, []))))))).1)) = false, (((((a.getD i.toNat (0, (0, (0, (0, (0, (0, []))))))).2).1) : Int) != (((b.getD i.toNat (0, (0, (0, (0, (0, (0, []))))))).2).1)) = false, ((((((a.getD i.toNat (0, (0, (0, (0, (0, (0, []))))))).2).2).1) : Int) != ((((b.getD i.toNat (0, (0, (0, (0, (0, (0, []))))))).2).2).1)) = false, (((((((a.getD i.toNat (0, (0, (0, (0, (0, (0, []))))))).2).2).2).1) : Int) != (((((b.getD i.toNat (0, (0, (0, (0, (0, (0, []))))))).2).2).2).1)) = false, ((((((((a.getD i.toNat (0, (0, (0, (0, (0, (0, []))))))).2).2).2).2).1) : Int) != ((((((b.getD i.toNat (0, (0, (0, (0, (0, (0, []))))))).2).2).2).2).1)) = false, (((((((((a.getD i.toNat (0, (0, (0, (0, (0, (0, []))))))).2).2).2).2).2).1) : Int) != (((((((b.getD i.toNat (0, (0, (0, (0, (0, (0, []))))))).2).2).2).2).2).1)) = true, true = true] (by kernel_rfl) ⟨b622_5, b622_12, b622_19, b622_26, b622_33, b622_40, rfl, trivial⟩ ?_
                  have h := Option.some.inj h
                  subst h
                  have hk : o = f13_broughamref25_Same_out false := hk
                  subst hk
                  exact At.fin hm ht ⟨[], [], [], [4], []⟩ [] (by kernel_rfl) trivial
                · rcases iteS h with ⟨b622_e0, h⟩ | ⟨b622_e0, h⟩
                  · refine At.step hm ht ⟨[(5, .b false), (12, .b false), (19, .b false), (26, .b false), (33, .b false), (40, .b false)], [true], [], [], []⟩ 8 ⟨[], [], [], 0⟩ [((((a.getD i.toNat (0, (0, (0, (0, (0, (0, []))))))).1) : Int) != ((b.getD i.toNat (0, (0, (0, (0, (0, (0, []))))))).1)) = false, (((((a.getD i.toNat (0, (0, (0, (0, (0, (0, []))))))).2).1) : Int) != (((b.getD i.toNat (0, (0, (0, (0, (0, (0, []))))))).2).1)) = false, ((((((a.getD i.toNat (0, (0, (0, (0, (0, (0, []))))))).2).2).1) : Int) != ((((b.getD i.toNat (0, (0, (0, (0, (0, (0, []))))))).2).2).1)) = false, (((((((a.getD i.toNat (0, (0, (0, (0, (0, (0, []))))))).2).2).2).1) : Int) != (((((b.getD i.toNat (0, (0, (0, (0, (0, (0, []))))))).2).2).2).1)) = false, ((((((((a.getD i.toNat (0, (0, (0, (0, (0, (0, []))))))).2).2).2).2).1) : Int) != ((((((b.getD i.toNat (0, (0, (0, (0, (0, (0, []))))))).2).2).2).2).1)) = false, (((((((((a.getD i.toNat (0, (0, (0, (0, (0, (0, []))))))).2).2).2).2).2).1) : Int) != (((((((b.getD i.toNat (0, (0, (0, (0, (0, (0, []))))))).2).2).2).2).2).1)) = false, (!((strOfNums (((((((a.getD i.toNat (0, (0, (0, (0, (0, (0, []))))))).2).2).2).2).2).2)).toList == (strOfNums (((((((b.getD i.toNat (0, (0, (0, (0, (0, (0, []))))))).2).2).2).2).2).2)).toList)) = true] (by kernel_rfl) ⟨b622_5, b622_12, b622_19, b622_26, b622_33, b622_40, b622_e0, trivial⟩ ?_
                    have h := Option.some.inj h
                    subst h
                    have hk : o = f13_broughamref25_Same_out false := hk
                    subst hk
                    exact At.fin hm ht ⟨[], [], [], [4], []⟩ [] (by kernel_rfl) trivial
                  · refine At.step hm ht ⟨[(5, .b false), (12, .b false), (19, .b false), (26, .b false), (33, .b false), (40, .b false)], [false], [], [0, 1, 5], []⟩ 5 ⟨[(0, .one (.c (.d (.sl (.pair (.int .i64) (.pair (.int .i64) (.pair (.int .i64) (.pair (.int .i64) (.pair (.int .i64) (.pair (.int .i64) (.slice (.int .u8)))))))) a)))), (1, .one (.c (.d (.sl (.pair (.int .i64) (.pair (.int .i64) (.pair (.int .i64) (.pair (.int .i64) (.pair (.int .i64) (.pair (.int .i64) (.slice (.int .u8)))))))) b)))), (5, .one (.c (.d (.int .i64 i))))], [], [], 0⟩ [((((a.getD i.toNat (0, (0, (0, (0, (0, (0, []))))))).1) : Int) != ((b.getD i.toNat (0, (0, (0, (0, (0, (0, []))))))).1)) = false, (((((a.getD i.toNat (0, (0, (0, (0, (0, (0, []))))))).2).1) : Int) != (((b.getD i.toNat (0, (0, (0, (0, (0, (0, []))))))).2).1)) = false, ((((((a.getD i.toNat (0, (0, (0, (0, (0, (0, []))))))).2).2).1) : Int) != ((((b.getD i.toNat (0, (0, (0, (0, (0, (0, []))))))).2).2).1)) = false, (((((((a.getD i.toNat (0, (0, (0, (0, (0, (0, []))))))).2).2).2).1) : Int) != (((((b.getD i.toNat (0, (0, (0, (0, (0, (0, []))))))).2).2).2).1)) = false, ((((((((a.getD i.toNat (0, (0, (0, (0, (0, (0, []))))))).2).2).2).2).1) : Int) != ((((((b.getD i.toNat (0, (0, (0, (0, (0, (0, []))))))).2).2).2).2).1)) = false, (((((((((a.getD i.toNat (0, (0, (0, (0, (0, (0, []))))))).2).2).2).2).2).1) : Int) != (((((((b.getD i.toNat (0, (0, (0, (0, (0, (0, []))))))).2).2).2).2).2).1)) = false, (!((strOfNums (((((((a.getD i.toNat (0, (0, (0, (0, (0, (0, []))))))).2).2).2).2).2).2)).toList == (strOfNums (((((((b.getD i.toNat (0, (0, (0, (0, (0, (0, []))))))).2).2).2).2).2).2)).toList)) = false] (by kernel_rfl) ⟨b622_5, b622_12, b622_19, b622_26, b622_33, b622_40, b622_e0, trivial⟩ ?_
                    refine At.step hm ht ⟨[], [], [], [0, 1, 5], []⟩ 4 ⟨[(0, .one (.c (.d (.sl (.pair (.int .i64) (.pair (.int .i64) (.pair (.int .i64) (.pair (.int .i64) (.pair (.int .i64) (.pair (.int .i64) (.slice (.int .u8)))))))) a)))), (1, .one (.c (.d (.sl (.pair (.int .i64) (.pair (.int .i64) (.pair (.int .i64) (.pair (.int .i64) (.pair (.int .i64) (.pair (.int .i64) (.slice (.int .u8)))))))) b)))), (5, .one (.c (.d (.int .i64 (IntKind.wrap .i64 (i + 1))))))], [], [], 0⟩ [] (by kernel_rfl) trivial ?_
                    exact ih a b (IntKind.wrap .i64 (i + 1)) w h o hk
    · refine At.step hm ht ⟨[], [false], [], [], []⟩ 9 ⟨[], [], [], 0⟩ [(decide ((i : Int) < ((a.length : Nat) : Int))) = false] (by kernel_rfl) ⟨b620_e0, trivial⟩ ?_
      have h := Option.some.inj h
      subst h
      exact hk
def f13_broughamref25_Same (n : Nat) (a : List (Int × Int × Int × Int × Int × Int × List Int)) (b : List (Int × Int × Int × Int × Int × Int × List Int)) : Option (Bool) :=
  if ((((a.length : Nat) : Int) : Int) != ((b.length : Nat) : Int)) = true then
    some false
  else
    (f13_broughamref25_Same_L4 n a b 0).bind fun w631 =>
    match w631 with
    | .inl e632 =>
      some e632
    | .inr e633 =>
      some true
theorem f13_broughamref25_Same_ok (n : Nat) (a : List (Int × Int × Int × Int × Int × Int × List Int)) (b : List (Int × Int × Int × Int × Int × Int × List Int)) (r : Bool) (h : f13_broughamref25_Same n a b = some r) : FnOK Go.Proofs.Tryd.prog 13 (f13_broughamref25_Same_in a b) (f13_broughamref25_Same_out r) := by
  unfold f13_broughamref25_Same at h
  refine At.fn (r := 0) Go.Proofs.Tryd.func13 rfl (by kernel_rfl) rfl rfl (by kernel_rfl) ?_
  show At Go.Proofs.Tryd.prog Go.Proofs.Tryd.f13 0 0 ⟨[(0, .one (.c (.d (.sl (.pair (.int .i64) (.pair (.int .i64) (.pair (.int .i64) (.pair (.int .i64) (.pair (.int .i64) (.pair (.int .i64) (.slice (.int .u8)))))))) a)))), (1, .one (.c (.d (.sl (.pair (.int .i64) (.pair (.int .i64) (.pair (.int .i64) (.pair (.int .i64) (.pair (.int .i64) (.pair (.int .i64) (.slice (.int .u8)))))))) b))))], [], [], 0⟩ _
  refine At.step hm ht ⟨[], [], [], [0, 1], []⟩ 1 ⟨[(0, .one (.c (.d (.sl (.pair (.int .i64) (.pair (.int .i64) (.pair (.int .i64) (.pair (.int .i64) (.pair (.int .i64) (.pair (.int .i64) (.slice (.int .u8)))))))) a)))), (1, .one (.c (.d (.sl (.pair (.int .i64) (.pair (.int .i64) (.pair (.int .i64) (.pair (.int .i64) (.pair (.int .i64) (.pair (.int .i64) (.slice (.int .u8)))))))) b))))], [], [], 0⟩ [] (by kernel_rfl) trivial ?_
  rcases iteS h with ⟨b617_e0, h⟩ | ⟨b617_e0, h⟩
  · refine At.step hm ht ⟨[], [true], [], [], []⟩ 2 ⟨[], [], [], 0⟩ [((((a.length : Nat) : Int) : Int) != ((b.length : Nat) : Int)) = true] (by kernel_rfl) ⟨b617_e0, trivial⟩ ?_
    have h := Option.some.inj h
    subst h
    exact At.fin hm ht ⟨[], [], [], [4], []⟩ [] (by kernel_rfl) trivial
  · refine At.step hm ht ⟨[], [false], [], [0, 1], []⟩ 3 ⟨[(0, .one (.c (.d (.sl (.pair (.int .i64) (.pair (.int .i64) (.pair (.int .i64) (.pair (.int .i64) (.pair (.int .i64) (.pair (.int .i64) (.slice (.int .u8)))))))) a)))), (1, .one (.c (.d (.sl (.pair (.int .i64) (.pair (.int .i64) (.pair (.int .i64) (.pair (.int .i64) (.pair (.int .i64) (.pair (.int .i64) (.slice (.int .u8)))))))) b))))], [], [], 0⟩ [((((a.length : Nat) : Int) : Int) != ((b.length : Nat) : Int)) = false] (by kernel_rfl) ⟨b617_e0, trivial⟩ ?_
    refine At.step hm ht ⟨[], [], [], [0, 1, 5], []⟩ 4 ⟨[(0, .one (.c (.d (.sl (.pair (.int .i64) (.pair (.int .i64) (.pair (.int .i64) (.pair (.int .i64) (.pair (.int .i64) (.pair (.int .i64) (.slice (.int .u8)))))))) a)))), (1, .one (.c (.d (.sl (.pair (.int .i64) (.pair (.int .i64) (.pair (.int .i64) (.pair (.int .i64) (.pair (.int .i64) (.pair (.int .i64) (.slice (.int .u8)))))))) b)))), (5, .one (.c (.d (.int .i64 0))))], [], [], 0⟩ [] (by kernel_rfl) trivial ?_
    obtain ⟨w631, cw631, h⟩ := bindS h
    refine f13_broughamref25_Same_L4_ok n a b 0 w631 cw631 _ ?_
    rcases w631 with e632 | e633
    · have h := Option.some.inj h
      subst h
      rfl
    · show At Go.Proofs.Tryd.prog Go.Proofs.Tryd.f13 0 9 ⟨[], [], [], 0⟩ _
      have h := Option.some.inj h
      subst h
      exact At.fin hm ht ⟨[], [], [], [4], []⟩ [] (by kernel_rfl) trivial
/-! brougham/broughamlaw25.alive -/
def f14_broughamlaw25_alive_in : Inn := ⟨[], [], [], 0⟩
def f14_broughamlaw25_alive_out (r : Bool) : Out := ⟨.one (.c (.d (.bool r))), [], [], 0⟩
def f14_broughamlaw25_alive (n : Nat) : Option (Bool) :=
  (f11_script_Parse n (⟨#[99, 111, 110, 110, 101, 99, 116, 32, 48, 32, 53, 32, 56, 48, 32, 49]⟩ : ByteArray)).bind fun r636_0 =>
  (f11_script_Parse n (⟨#[116, 105, 99, 107]⟩ : ByteArray)).bind fun r637_0 =>
  if ((r636_0.2.2 : Int) == 0) = true then
    if ((r636_0.2.1 : Int) == 0) = true then
      if ((((r636_0.1.length : Nat) : Int) : Int) == 1) = true then
        if (0 : Int) ≤ 0 ∧ 0 < (((r636_0.1).length : Nat) : Int) then
        if ((((r636_0.1.getD 0 (0, (0, (0, (0, (0, (0, []))))))).1) : Int) == 2) = true then
          if (0 : Int) ≤ 0 ∧ 0 < (((r636_0.1).length : Nat) : Int) then
          if ((((((r636_0.1.getD 0 (0, (0, (0, (0, (0, (0, []))))))).2).2).1) : Int) == 5) = true then
            if (0 : Int) ≤ 0 ∧ 0 < (((r636_0.1).length : Nat) : Int) then
            if (((((((r636_0.1.getD 0 (0, (0, (0, (0, (0, (0, []))))))).2).2).2).1) : Int) == 80) = true then
              if (0 : Int) ≤ 0 ∧ 0 < (((r636_0.1).length : Nat) : Int) then
              if ((((((((r636_0.1.getD 0 (0, (0, (0, (0, (0, (0, []))))))).2).2).2).2).1) : Int) == 1) = true then
                if ((r637_0.2.1 : Int) == 1) = true then
                  some ((r637_0.2.2 : Int) == 230)
                else
                  some false
              else
                some false
              else none
            else
              some false
            else none
          else
            some false
          else none
        else
          some false
        else none
      else
        some false
    else
      some false
  else
    some false
theorem f14_broughamlaw25_alive_ok (n : Nat) (r : Bool) (h : f14_broughamlaw25_alive n = some r) : FnOK Go.Proofs.Tryd.prog 14 (f14_broughamlaw25_alive_in) (f14_broughamlaw25_alive_out r) := by
  unfold f14_broughamlaw25_alive at h
  refine At.fn (r := 0) Go.Proofs.Tryd.func14 rfl (by kernel_rfl) rfl rfl (by kernel_rfl) ?_
  show At Go.Proofs.Tryd.prog Go.Proofs.Tryd.f14 0 0 ⟨[], [], [], 0⟩ _
  refine At.step hm ht ⟨[], [], [], [], []⟩ 1 ⟨[], [], [], 0⟩ [] (by kernel_rfl) trivial ?_
  obtain ⟨r636_0, cr636_0, h⟩ := bindS h
  refine At.step hm ht ⟨[(0, .call [] [] (f11_script_Parse_out r636_0))], [], [], [1, 2, 3], [0]⟩ 2 ⟨[(1, .one (.c (.own 0 (.pair (.int .i64) (.pair (.int .i64) (.pair (.int .i64) (.pair (.int .i64) (.pair (.int .i64) (.pair (.int .i64) (.slice (.int .u8)))))))) r636_0.1))), (2, .one (.c (.d (.int .i64 r636_0.2.1)))), (3, .one (.c (.d (.int .i64 r636_0.2.2))))], [(0, some ⟨79, 0⟩)], [], 1⟩ [FnOK Go.Proofs.Tryd.prog 11 (f11_script_Parse_in (⟨#[99, 111, 110, 110, 101, 99, 116, 32, 48, 32, 53, 32, 56, 48, 32, 49]⟩ : ByteArray)) (f11_script_Parse_out r636_0)] (by kernel_rfl) ⟨(f11_script_Parse_ok n (⟨#[99, 111, 110, 110, 101, 99, 116, 32, 48, 32, 53, 32, 56, 48, 32, 49]⟩ : ByteArray) r636_0 cr636_0), trivial⟩ ?_
  obtain ⟨r637_0, cr637_0, h⟩ := bindS h
  refine At.step hm ht ⟨[(0, .call [] [] (f11_script_Parse_out r637_0))], [], [], [1, 2, 3, 5, 6], [0]⟩ 3 ⟨[(1, .one (.c (.own 0 (.pair (.int .i64) (.pair (.int .i64) (.pair (.int .i64) (.pair (.int .i64) (.pair (.int .i64) (.pair (.int .i64) (.slice (.int .u8)))))))) r636_0.1))), (2, .one (.c (.d (.int .i64 r636_0.2.1)))), (3, .one (.c (.d (.int .i64 r636_0.2.2)))), (5, .one (.c (.d (.int .i64 r637_0.2.1)))), (6, .one (.c (.d (.int .i64 r637_0.2.2))))], [(0, some ⟨79, 0⟩)], [], 1⟩ [FnOK Go.Proofs.Tryd.prog 11 (f11_script_Parse_in (⟨#[116, 105, 99, 107]⟩ : ByteArray)) (f11_script_Parse_out r637_0)] (by kernel_rfl) ⟨(f11_script_Parse_ok n (⟨#[116, 105, 99, 107]⟩ : ByteArray) r637_0 cr637_0), trivial⟩ ?_
  rcases iteS h with ⟨b638_2, h⟩ | ⟨b638_2, h⟩
  · rcases iteS h with ⟨b638_6, h⟩ | ⟨b638_6, h⟩
    · rcases iteS h with ⟨b638_11, h⟩ | ⟨b638_11, h⟩
      · obtain ⟨g638_0, h⟩ := ifS h
        rcases iteS h with ⟨b638_18, h⟩ | ⟨b638_18, h⟩
        · obtain ⟨g638_1, h⟩ := ifS h
          rcases iteS h with ⟨b638_25, h⟩ | ⟨b638_25, h⟩
          · obtain ⟨g638_2, h⟩ := ifS h
            rcases iteS h with ⟨b638_32, h⟩ | ⟨b638_32, h⟩
            · obtain ⟨g638_3, h⟩ := ifS h
              rcases iteS h with ⟨b638_39, h⟩ | ⟨b638_39, h⟩
              · rcases iteS h with ⟨b638_43, h⟩ | ⟨b638_43, h⟩
                · have h := Option.some.inj h
                  subst h
                  exact At.fin hm ht ⟨[(2, .b true), (6, .b true), (11, .b true), (18, .b true), (25, .b true), (32, .b true), (39, .b true), (43, .b true)], [], [], [0], []⟩ [((r636_0.2.2 : Int) == 0) = true, ((r636_0.2.1 : Int) == 0) = true, ((((r636_0.1.length : Nat) : Int) : Int) == 1) = true, (0 : Int) ≤ 0 ∧ 0 < (((r636_0.1).length : Nat) : Int), ((((r636_0.1.getD 0 (0, (0, (0, (0, (0, (0, []))))))).1) : Int) == 2) = true, (0 : Int) ≤ 0 ∧ 0 < (((r636_0.1).length : Nat) : Int), ((((((r636_0.1.getD 0 (0, (0, (0, (0, (0, (0, []))))))).2).2).1) : Int) == 5) = true, (0 : Int) ≤ 0 ∧ 0 < (((r636_0.1).length : Nat) : Int), (((((((r636_0.1.getD 0 (0, (0, (0, (0, (0, (0, []))))))).2).2).2).1) : Int) == 80) = true, (0 : Int) ≤ 0 ∧ 0 < (((r636_0.1).length : Nat) : Int), ((((((((r636_0.1.getD 0 (0, (0, (0, (0, (0, (0, []))))))).2).2).2).2).1) : Int) == 1) = true, ((r637_0.2.1 : Int) == 1) = true] (by kernel_rfl) ⟨b638_2, b638_6, b638_11, g638_0, b638_18, g638_1, b638_25, g638_2, b638_32, g638_3, b638_39, b638_43, trivial⟩
                · have h := Option.some.inj h
                  subst h
                  exact At.fin hm ht ⟨[(2, .b true), (6, .b true), (11, .b true), (18, .b true), (25, .b true), (32, .b true), (39, .b true), (43, .b false)], [], [], [0], []⟩ [((r636_0.2.2 : Int) == 0) = true, ((r636_0.2.1 : Int) == 0) = true, ((((r636_0.1.length : Nat) : Int) : Int) == 1) = true, (0 : Int) ≤ 0 ∧ 0 < (((r636_0.1).length : Nat) : Int), ((((r636_0.1.getD 0 (0, (0, (0, (0, (0, (0, []))))))).1) : Int) == 2) = true, (0 : Int) ≤ 0 ∧ 0 < (((r636_0.1).length : Nat) : Int), ((((((r636_0.1.getD 0 (0, (0, (0, (0, (0, (0, []))))))).2).2).1) : Int) == 5) = true, (0 : Int) ≤ 0 ∧ 0 < (((r636_0.1).length : Nat) : Int), (((((((r636_0.1.getD 0 (0, (0, (0, (0, (0, (0, []))))))).2).2).2).1) : Int) == 80) = true, (0 : Int) ≤ 0 ∧ 0 < (((r636_0.1).length : Nat) : Int), ((((((((r636_0.1.getD 0 (0, (0, (0, (0, (0, (0, []))))))).2).2).2).2).1) : Int) == 1) = true, ((r637_0.2.1 : Int) == 1) = false] (by kernel_rfl) ⟨b638_2, b638_6, b638_11, g638_0, b638_18, g638_1, b638_25, g638_2, b638_32, g638_3, b638_39, b638_43, trivial⟩
              · have h := Option.some.inj h
                subst h
                exact At.fin hm ht ⟨[(2, .b true), (6, .b true), (11, .b true), (18, .b true), (25, .b true), (32, .b true), (39, .b false)], [], [], [0], []⟩ [((r636_0.2.2 : Int) == 0) = true, ((r636_0.2.1 : Int) == 0) = true, ((((r636_0.1.length : Nat) : Int) : Int) == 1) = true, (0 : Int) ≤ 0 ∧ 0 < (((r636_0.1).length : Nat) : Int), ((((r636_0.1.getD 0 (0, (0, (0, (0, (0, (0, []))))))).1) : Int) == 2) = true, (0 : Int) ≤ 0 ∧ 0 < (((r636_0.1).length : Nat) : Int), ((((((r636_0.1.getD 0 (0, (0, (0, (0, (0, (0, []))))))).2).2).1) : Int) == 5) = true, (0 : Int) ≤ 0 ∧ 0 < (((r636_0.1).length : Nat) : Int), (((((((r636_0.1.getD 0 (0, (0, (0, (0, (0, (0, []))))))).2).2).2).1) : Int) == 80) = true, (0 : Int) ≤ 0 ∧ 0 < (((r636_0.1).length : Nat) : Int), ((((((((r636_0.1.getD 0 (0, (0, (0, (0, (0, (0, []))))))).2).2).2).2).1) : Int) == 1) = false] (by kernel_rfl) ⟨b638_2, b638_6, b638_11, g638_0, b638_18, g638_1, b638_25, g638_2, b638_32, g638_3, b638_39, trivial⟩
            · have h := Option.some.inj h
              subst h
              exact At.fin hm ht ⟨[(2, .b true), (6, .b true), (11, .b true), (18, .b true), (25, .b true), (32, .b false)], [], [], [0], []⟩ [((r636_0.2.2 : Int) == 0) = true, ((r636_0.2.1 : Int) == 0) = true, ((((r636_0.1.length : Nat) : Int) : Int) == 1) = true, (0 : Int) ≤ 0 ∧ 0 < (((r636_0.1).length : Nat) : Int), ((((r636_0.1.getD 0 (0, (0, (0, (0, (0, (0, []))))))).1) : Int) == 2) = true, (0 : Int) ≤ 0 ∧ 0 < (((r636_0.1).length : Nat) : Int), ((((((r636_0.1.getD 0 (0, (0, (0, (0, (0, (0, []))))))).2).2).1) : Int) == 5) = true, (0 : Int) ≤ 0 ∧ 0 < (((r636_0.1).length : Nat) : Int), (((((((r636_0.1.getD 0 (0, (0, (0, (0, (0, (0, []))))))).2).2).2).1) : Int) == 80) = false] (by kernel_rfl) ⟨b638_2, b638_6, b638_11, g638_0, b638_18, g638_1, b638_25, g638_2, b638_32, trivial⟩
          · have h := Option.some.inj h
            subst h
            exact At.fin hm ht ⟨[(2, .b true), (6, .b true), (11, .b true), (18, .b true), (25, .b false)], [], [], [0], []⟩ [((r636_0.2.2 : Int) == 0) = true, ((r636_0.2.1 : Int) == 0) = true, ((((r636_0.1.length : Nat) : Int) : Int) == 1) = true, (0 : Int) ≤ 0 ∧ 0 < (((r636_0.1).length : Nat) : Int), ((((r636_0.1.getD 0 (0, (0, (0, (0, (0, (0, []))))))).1) : Int) == 2) = true, (0 : Int) ≤ 0 ∧ 0 < (((r636_0.1).length : Nat) : Int), ((((((r636_0.1.getD 0 (0, (0, (0, (0, (0, (0, []))))))).2).2).1) : Int) == 5) = false] (by kernel_rfl) ⟨b638_2, b638_6, b638_11, g638_0, b638_18, g638_1, b638_25, trivial⟩
        · have h := Option.some.inj h
          subst h
          exact At.fin hm ht ⟨[(2, .b true), (6, .b true), (11, .b true), (18, .b false)], [], [], [0], []⟩ [((r636_0.2.2 : Int) == 0) = true, ((r636_0.2.1 : Int) == 0) = true, ((((r636_0.1.length : Nat) : Int) : Int) == 1) = true, (0 : Int) ≤ 0 ∧ 0 < (((r636_0.1).length : Nat) : Int), ((((r636_0.1.getD 0 (0, (0, (0, (0, (0, (0, []))))))).1) : Int) == 2) = false] (by kernel_rfl) ⟨b638_2, b638_6, b638_11, g638_0, b638_18, trivial⟩
      · have h := Option.some.inj h
        subst h
        exact At.fin hm ht ⟨[(2, .b true), (6, .b true), (11, .b false)], [], [], [0], []⟩ [((r636_0.2.2 : Int) == 0) = true, ((r636_0.2.1 : Int) == 0) = true, ((((r636_0.1.length : Nat) : Int) : Int) == 1) = false] (by kernel_rfl) ⟨b638_2, b638_6, b638_11, trivial⟩
    · have h := Option.some.inj h
      subst h
      exact At.fin hm ht ⟨[(2, .b true), (6, .b false)], [], [], [0], []⟩ [((r636_0.2.2 : Int) == 0) = true, ((r636_0.2.1 : Int) == 0) = false] (by kernel_rfl) ⟨b638_2, b638_6, trivial⟩
  · have h := Option.some.inj h
    subst h
    exact At.fin hm ht ⟨[(2, .b false)], [], [], [0], []⟩ [((r636_0.2.2 : Int) == 0) = false] (by kernel_rfl) ⟨b638_2, trivial⟩
/-! brougham/broughamlaw25.ScriptReads -/
def f3_broughamlaw25_ScriptReads_in (s : ByteArray) : Inn := ⟨[.c (.d (.str s))], [], [], 0⟩
def f3_broughamlaw25_ScriptReads_out (r : Bool) : Out := ⟨.one (.c (.d (.bool r))), [], [], 0⟩
def f3_broughamlaw25_ScriptReads (n : Nat) (s : ByteArray) : Option (Bool) :=
  if (decide ((((s.size : Nat) : Int) : Int) > 70000)) = true then
    some true
  else
    (f11_script_Parse n s).bind fun r4_0 =>
    (f12_broughamref25_Parse n s).bind fun r309_0 =>
    if ((r4_0.2.1 : Int) == r309_0.2.1) = true then
      if ((r4_0.2.2 : Int) == r309_0.2.2) = true then
        (f13_broughamref25_Same n r4_0.1 r309_0.1).bind fun r615_0 =>
        if r615_0 = true then
          (f14_broughamlaw25_alive n).bind fun r615_1 =>
          some r615_1
        else
          some false
      else
        some false
    else
      some false
theorem f3_broughamlaw25_ScriptReads_ok (n : Nat) (s : ByteArray) (r : Bool) (h : f3_broughamlaw25_ScriptReads n s = some r) : FnOK Go.Proofs.Tryd.prog 3 (f3_broughamlaw25_ScriptReads_in s) (f3_broughamlaw25_ScriptReads_out r) := by
  unfold f3_broughamlaw25_ScriptReads at h
  refine At.fn (r := 0) Go.Proofs.Tryd.func3 rfl (by kernel_rfl) rfl rfl (by kernel_rfl) ?_
  show At Go.Proofs.Tryd.prog Go.Proofs.Tryd.f3 0 0 ⟨[(0, .one (.c (.d (.str s))))], [], [], 0⟩ _
  refine At.step hm ht ⟨[], [], [], [0], []⟩ 1 ⟨[(0, .one (.c (.d (.str s))))], [], [], 0⟩ [] (by kernel_rfl) trivial ?_
  rcases iteS h with ⟨b2_e0, h⟩ | ⟨b2_e0, h⟩
  · refine At.step hm ht ⟨[], [true], [], [], []⟩ 2 ⟨[], [], [], 0⟩ [(decide ((((s.size : Nat) : Int) : Int) > 70000)) = true] (by kernel_rfl) ⟨b2_e0, trivial⟩ ?_
    have h := Option.some.inj h
    subst h
    exact At.fin hm ht ⟨[], [], [], [2], []⟩ [] (by kernel_rfl) trivial
  · refine At.step hm ht ⟨[], [false], [], [0], []⟩ 3 ⟨[(0, .one (.c (.d (.str s))))], [], [], 0⟩ [(decide ((((s.size : Nat) : Int) : Int) > 70000)) = false] (by kernel_rfl) ⟨b2_e0, trivial⟩ ?_
    obtain ⟨r4_0, cr4_0, h⟩ := bindS h
    refine At.step hm ht ⟨[(1, .call [] [] (f11_script_Parse_out r4_0))], [], [], [0, 3, 4, 5], [1]⟩ 4 ⟨[(0, .one (.c (.d (.str s)))), (3, .one (.c (.own 0 (.pair (.int .i64) (.pair (.int .i64) (.pair (.int .i64) (.pair (.int .i64) (.pair (.int .i64) (.pair (.int .i64) (.slice (.int .u8)))))))) r4_0.1))), (4, .one (.c (.d (.int .i64 r4_0.2.1)))), (5, .one (.c (.d (.int .i64 r4_0.2.2))))], [(0, some ⟨79, 0⟩)], [], 1⟩ [FnOK Go.Proofs.Tryd.prog 11 (f11_script_Parse_in s) (f11_script_Parse_out r4_0)] (by kernel_rfl) ⟨(f11_script_Parse_ok n s r4_0 cr4_0), trivial⟩ ?_
    obtain ⟨r309_0, cr309_0, h⟩ := bindS h
    refine At.step hm ht ⟨[(1, .call [] [] (f12_broughamref25_Parse_out r309_0))], [], [], [3, 4, 5, 6, 7, 8], [0, 2]⟩ 5 ⟨[(3, .one (.c (.own 0 (.pair (.int .i64) (.pair (.int .i64) (.pair (.int .i64) (.pair (.int .i64) (.pair (.int .i64) (.pair (.int .i64) (.slice (.int .u8)))))))) r4_0.1))), (4, .one (.c (.d (.int .i64 r4_0.2.1)))), (5, .one (.c (.d (.int .i64 r4_0.2.2)))), (6, .one (.c (.own 1 (.pair (.int .i64) (.pair (.int .i64) (.pair (.int .i64) (.pair (.int .i64) (.pair (.int .i64) (.pair (.int .i64) (.slice (.int .u8)))))))) r309_0.1))), (7, .one (.c (.d (.int .i64 r309_0.2.1)))), (8, .one (.c (.d (.int .i64 r309_0.2.2))))], [(0, some ⟨79, 0⟩), (1, some ⟨79, 0⟩)], [], 2⟩ [FnOK Go.Proofs.Tryd.prog 12 (f12_broughamref25_Parse_in s) (f12_broughamref25_Parse_out r309_0)] (by kernel_rfl) ⟨(f12_broughamref25_Parse_ok n s r309_0 cr309_0), trivial⟩ ?_
    rcases iteS h with ⟨b615_3, h⟩ | ⟨b615_3, h⟩
    · rcases iteS h with ⟨b615_8, h⟩ | ⟨b615_8, h⟩
      · obtain ⟨r615_0, cr615_0, h⟩ := bindS h
        rcases iteS h with ⟨b615_13, h⟩ | ⟨b615_13, h⟩
        · obtain ⟨r615_1, cr615_1, h⟩ := bindS h
          have h := Option.some.inj h
          subst h
          exact At.fin hm ht ⟨[(3, .b true), (8, .b true), (11, .call [] [] (f13_broughamref25_Same_out r615_0)), (13, .b true), (14, .call [] [] (f14_broughamlaw25_alive_out r615_1))], [], [], [2], []⟩ [((r4_0.2.1 : Int) == r309_0.2.1) = true, ((r4_0.2.2 : Int) == r309_0.2.2) = true, FnOK Go.Proofs.Tryd.prog 13 (f13_broughamref25_Same_in r4_0.1 r309_0.1) (f13_broughamref25_Same_out r615_0), r615_0 = true, FnOK Go.Proofs.Tryd.prog 14 (f14_broughamlaw25_alive_in) (f14_broughamlaw25_alive_out r615_1)] (by kernel_rfl) ⟨b615_3, b615_8, (f13_broughamref25_Same_ok n r4_0.1 r309_0.1 r615_0 cr615_0), b615_13, (f14_broughamlaw25_alive_ok n r615_1 cr615_1), trivial⟩
        · have h := Option.some.inj h
          subst h
          exact At.fin hm ht ⟨[(3, .b true), (8, .b true), (11, .call [] [] (f13_broughamref25_Same_out r615_0)), (13, .b false)], [], [], [2], []⟩ [((r4_0.2.1 : Int) == r309_0.2.1) = true, ((r4_0.2.2 : Int) == r309_0.2.2) = true, FnOK Go.Proofs.Tryd.prog 13 (f13_broughamref25_Same_in r4_0.1 r309_0.1) (f13_broughamref25_Same_out r615_0), r615_0 = false] (by kernel_rfl) ⟨b615_3, b615_8, (f13_broughamref25_Same_ok n r4_0.1 r309_0.1 r615_0 cr615_0), b615_13, trivial⟩
      · have h := Option.some.inj h
        subst h
        exact At.fin hm ht ⟨[(3, .b true), (8, .b false)], [], [], [2], []⟩ [((r4_0.2.1 : Int) == r309_0.2.1) = true, ((r4_0.2.2 : Int) == r309_0.2.2) = false] (by kernel_rfl) ⟨b615_3, b615_8, trivial⟩
    · have h := Option.some.inj h
      subst h
      exact At.fin hm ht ⟨[(3, .b false)], [], [], [2], []⟩ [((r4_0.2.1 : Int) == r309_0.2.1) = false] (by kernel_rfl) ⟨b615_3, trivial⟩
end Go.Proofs.YtakamchmiakicaaDoorF25
