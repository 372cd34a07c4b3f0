/- What the functions compute, and that they do: printed by a program of this session (zgen.py), proved by Zed. -/
import Derived.Test.YtakamchmiakicaaDoorF35cx0
namespace Go.Proofs.YtakamchmiakicaaDoorF35c
open Go Zed Go.Proofs.YtakamchmiakicaaDoorLeaf Go.Proofs.YtakamchmiakicaaDoorDfr
set_option maxRecDepth 100000
set_option linter.unusedVariables false
/-! brougham/broughamref35.Fits -/
def f34_broughamref35_Fits_in (f_0 : Int) (f_1 : Int) (f_2 : List (Int × Int × List FT)) (s_0 : Int) (s_1 : Int) (s_2 : Int) (s_3 : Int) (s_4 : Int) (s_5 : List (Int × List Int)) (s_6 : List Int) : Inn := ⟨[.agg [zi f_0, zi f_1, .d (.sl (.pair (.int .i64) (.pair (.int .i64) .wood)) f_2)], .agg [.d (.int .u16 s_0), .d (.int .u16 s_1), .d (.int .u32 s_2), .d (.int .u32 s_3), .d (.int .u8 s_4), .d (.sl (.pair (.int .u8) (.slice (.int .u8))) s_5), .d (.sl (.int .u8) s_6)]], [], [], 0⟩
def f34_broughamref35_Fits_out (r : Bool) : Out := ⟨oc (.d (.bool r)), [], [], 0⟩
def f34_broughamref35_Fits_L14 (rc_f34_broughamref35_Fits : Int → Int → (List (Int × Int × List FT)) → Int → Int → Int → Int → Int → (List (Int × List Int)) → (List Int) → Option (Bool)) : Nat → Int → Int → Int → (List (Int × Int × List FT)) → Int → Int → Int → Int → Int → (List (Int × List Int)) → (List Int) → Option ((Bool) ⊕ (Unit))
  | 0, _, _, _, _, _, _, _, _, _, _, _ => none
  | n + 1, i, f_0, f_1, f_2, s_0, s_1, s_2, s_3, s_4, s_5, s_6 =>
    if (decide ((i : Int) < ((s_5.length : Nat) : Int))) = true then
      if (0 : Int) ≤ i ∧ i < (((s_5).length : Nat) : Int) then
      if (((IntKind.wrap .i64 ((s_5.getD i.toNat (0, [])).1)) : Int) == f_1) = true then
        some (.inl true)
      else
        f34_broughamref35_Fits_L14 rc_f34_broughamref35_Fits n (IntKind.wrap .i64 (i + 1)) f_0 f_1 f_2 s_0 s_1 s_2 s_3 s_4 s_5 s_6
      else none
    else
      some (.inr ())
def f34_broughamref35_Fits_L14_k (w : (Bool) ⊕ (Unit)) (o : Out) : Prop := match w with
  | .inl e => o = f34_broughamref35_Fits_out e
  | .inr e => At Tryd.prog Tryd.f34 0 18 ⟨[], [], [], 0⟩ o
theorem f34_broughamref35_Fits_L14_ok (rc_f34_broughamref35_Fits : Int → Int → (List (Int × Int × List FT)) → Int → Int → Int → Int → Int → (List (Int × List Int)) → (List Int) → Option (Bool)) (hrc_f34_broughamref35_Fits : ∀ (f_0 : Int) (f_1 : Int) (f_2 : List (Int × Int × List FT)) (s_0 : Int) (s_1 : Int) (s_2 : Int) (s_3 : Int) (s_4 : Int) (s_5 : List (Int × List Int)) (s_6 : List Int) (r : Bool) (h : rc_f34_broughamref35_Fits f_0 f_1 f_2 s_0 s_1 s_2 s_3 s_4 s_5 s_6 = some r), FnOK Tryd.prog 34 (f34_broughamref35_Fits_in f_0 f_1 f_2 s_0 s_1 s_2 s_3 s_4 s_5 s_6) (f34_broughamref35_Fits_out r)) (n : Nat) : ∀ (i : Int) (f_0 : Int) (f_1 : Int) (f_2 : List (Int × Int × List FT)) (s_0 : Int) (s_1 : Int) (s_2 : Int) (s_3 : Int) (s_4 : Int) (s_5 : List (Int × List Int)) (s_6 : List Int) (w : (Bool) ⊕ (Unit)) (h : f34_broughamref35_Fits_L14 rc_f34_broughamref35_Fits n i f_0 f_1 f_2 s_0 s_1 s_2 s_3 s_4 s_5 s_6 = some w) (o : Out) (hk : f34_broughamref35_Fits_L14_k w o), At Tryd.prog Tryd.f34 0 14 ⟨[(2, oc (.ptr 0 0)), (3, oc (.ptr 1 0)), (5, oc (zi i))], [], [(0, [zi f_0, zi f_1, .d (.sl (.pair (.int .i64) (.pair (.int .i64) .wood)) f_2)]), (1, [.d (.int .u16 s_0), .d (.int .u16 s_1), .d (.int .u32 s_2), .d (.int .u32 s_3), .d (.int .u8 s_4), .d (.sl (.pair (.int .u8) (.slice (.int .u8))) s_5), .d (.sl (.int .u8) s_6)])], 2⟩ o := by
  induction n with
  | zero => intro i f_0 f_1 f_2 s_0 s_1 s_2 s_3 s_4 s_5 s_6 w h; rw [f34_broughamref35_Fits_L14] at h; cases h
  | succ n ih =>
    intro i f_0 f_1 f_2 s_0 s_1 s_2 s_3 s_4 s_5 s_6 w h o hk
    rw [f34_broughamref35_Fits_L14] at h
    rcases iteS h with ⟨b454_e0, h⟩ | ⟨b454_e0, h⟩
    · refine At.step hm ht ⟨[], [true], [], [2, 3, 5], [0, 1]⟩ 16 ⟨[(2, oc (.ptr 0 0)), (3, oc (.ptr 1 0)), (5, oc (zi i))], [], [(0, [zi f_0, zi f_1, .d (.sl (.pair (.int .i64) (.pair (.int .i64) .wood)) f_2)]), (1, [.d (.int .u16 s_0), .d (.int .u16 s_1), .d (.int .u32 s_2), .d (.int .u32 s_3), .d (.int .u8 s_4), .d (.sl (.pair (.int .u8) (.slice (.int .u8))) s_5), .d (.sl (.int .u8) s_6)])], 2⟩ [(decide ((i : Int) < ((s_5.length : Nat) : Int))) = true] (by kernel_rfl) ⟨b454_e0, trivial⟩ ?_
      obtain ⟨g455_0, h⟩ := ifS h
      rcases iteS h with ⟨b455_e0, h⟩ | ⟨b455_e0, h⟩
      · refine At.step hm ht ⟨[], [true], [], [], []⟩ 17 ⟨[], [], [], 0⟩ [(0 : Int) ≤ i ∧ i < (((s_5).length : Nat) : Int), (((IntKind.wrap .i64 ((s_5.getD i.toNat (0, [])).1)) : Int) == f_1) = true] (by kernel_rfl) ⟨g455_0, b455_e0, trivial⟩ ?_
        have h := Option.some.inj h
        subst h
        have hk : o = f34_broughamref35_Fits_out true := hk
        subst hk
        exact At.fin hm ht ⟨[], [], [], [4], []⟩ [] (by kernel_rfl) trivial
      · refine At.step hm ht ⟨[], [false], [], [2, 3, 5], [0, 1]⟩ 15 ⟨[(2, oc (.ptr 0 0)), (3, oc (.ptr 1 0)), (5, oc (zi i))], [], [(0, [zi f_0, zi f_1, .d (.sl (.pair (.int .i64) (.pair (.int .i64) .wood)) f_2)]), (1, [.d (.int .u16 s_0), .d (.int .u16 s_1), .d (.int .u32 s_2), .d (.int .u32 s_3), .d (.int .u8 s_4), .d (.sl (.pair (.int .u8) (.slice (.int .u8))) s_5), .d (.sl (.int .u8) s_6)])], 2⟩ [(0 : Int) ≤ i ∧ i < (((s_5).length : Nat) : Int), (((IntKind.wrap .i64 ((s_5.getD i.toNat (0, [])).1)) : Int) == f_1) = false] (by kernel_rfl) ⟨g455_0, b455_e0, trivial⟩ ?_
        refine At.step hm ht ⟨[], [], [], [2, 3, 5], [0, 1]⟩ 14 ⟨[(2, oc (.ptr 0 0)), (3, oc (.ptr 1 0)), (5, oc (zi (IntKind.wrap .i64 (i + 1))))], [], [(0, [zi f_0, zi f_1, .d (.sl (.pair (.int .i64) (.pair (.int .i64) .wood)) f_2)]), (1, [.d (.int .u16 s_0), .d (.int .u16 s_1), .d (.int .u32 s_2), .d (.int .u32 s_3), .d (.int .u8 s_4), .d (.sl (.pair (.int .u8) (.slice (.int .u8))) s_5), .d (.sl (.int .u8) s_6)])], 2⟩ [] (by kernel_rfl) trivial ?_
        exact ih (IntKind.wrap .i64 (i + 1)) f_0 f_1 f_2 s_0 s_1 s_2 s_3 s_4 s_5 s_6 w h o hk
    · refine At.step hm ht ⟨[], [false], [], [], []⟩ 18 ⟨[], [], [], 0⟩ [(decide ((i : Int) < ((s_5.length : Nat) : Int))) = false] (by kernel_rfl) ⟨b454_e0, trivial⟩ ?_
      have h := Option.some.inj h
      subst h
      exact hk
def f34_broughamref35_Fits : Nat → Int → Int → (List (Int × Int × List FT)) → Int → Int → Int → Int → Int → (List (Int × List Int)) → (List Int) → Option (Bool)
  | 0, _, _, _, _, _, _, _, _, _, _ => none
  | n + 1, f_0, f_1, f_2, s_0, s_1, s_2, s_3, s_4, s_5, s_6 =>
    if ((f_0 : Int) == 1) = true then
      some true
    else
      if ((f_0 : Int) == 2) = true then
        if (f_1 : Int) ≠ 0 then
        some (((Int.tmod (IntKind.wrap .i64 (Int.tdiv (IntKind.wrap .i64 s_4) f_1)) 2) : Int) == 1)
        else none
      else
        if ((f_0 : Int) == 3) = true then
          if (((IntKind.wrap .i64 s_0) : Int) == f_1) = true then
            some true
          else
            some (((IntKind.wrap .i64 s_1) : Int) == f_1)
        else
          if ((f_0 : Int) == 4) = true then
            some (((IntKind.wrap .i64 s_0) : Int) == f_1)
          else
            if ((f_0 : Int) == 5) = true then
              some (((IntKind.wrap .i64 s_1) : Int) == f_1)
            else
              if ((f_0 : Int) == 6) = true then
                (f34_broughamref35_Fits_L14 (f34_broughamref35_Fits n) n 0 f_0 f_1 f_2 s_0 s_1 s_2 s_3 s_4 s_5 s_6).bind fun w458 =>
                match w458 with
                | .inl e459 =>
                  some e459
                | .inr e460 =>
                  some false
              else
                if ((f_0 : Int) == 7) = true then
                  some (decide ((((s_6.length : Nat) : Int) : Int) ≥ f_1))
                else
                  if ((f_0 : Int) == 8) = true then
                    if (0 : Int) ≤ 0 ∧ 0 < (((f_2).length : Nat) : Int) then
                    ((f34_broughamref35_Fits n) ((f_2.getD 0 (0, (0, []))).1) (((f_2.getD 0 (0, (0, []))).2).1) ((((f_2.getD 0 (0, (0, []))).2).2).map FT.un) s_0 s_1 s_2 s_3 s_4 s_5 s_6).bind fun r465_1 =>
                    some (!r465_1)
                    else none
                  else
                    if ((f_0 : Int) == 9) = true then
                      if (0 : Int) ≤ 0 ∧ 0 < (((f_2).length : Nat) : Int) then
                      ((f34_broughamref35_Fits n) ((f_2.getD 0 (0, (0, []))).1) (((f_2.getD 0 (0, (0, []))).2).1) ((((f_2.getD 0 (0, (0, []))).2).2).map FT.un) s_0 s_1 s_2 s_3 s_4 s_5 s_6).bind fun r467_1 =>
                      if r467_1 = true then
                        if (0 : Int) ≤ 1 ∧ 1 < (((f_2).length : Nat) : Int) then
                        ((f34_broughamref35_Fits n) ((f_2.getD 1 (0, (0, []))).1) (((f_2.getD 1 (0, (0, []))).2).1) ((((f_2.getD 1 (0, (0, []))).2).2).map FT.un) s_0 s_1 s_2 s_3 s_4 s_5 s_6).bind fun r467_3 =>
                        some r467_3
                        else none
                      else
                        some false
                      else none
                    else
                      if ((f_0 : Int) == 10) = true then
                        if (0 : Int) ≤ 0 ∧ 0 < (((f_2).length : Nat) : Int) then
                        ((f34_broughamref35_Fits n) ((f_2.getD 0 (0, (0, []))).1) (((f_2.getD 0 (0, (0, []))).2).1) ((((f_2.getD 0 (0, (0, []))).2).2).map FT.un) s_0 s_1 s_2 s_3 s_4 s_5 s_6).bind fun r469_1 =>
                        if r469_1 = true then
                          some true
                        else
                          if (0 : Int) ≤ 1 ∧ 1 < (((f_2).length : Nat) : Int) then
                          ((f34_broughamref35_Fits n) ((f_2.getD 1 (0, (0, []))).1) (((f_2.getD 1 (0, (0, []))).2).1) ((((f_2.getD 1 (0, (0, []))).2).2).map FT.un) s_0 s_1 s_2 s_3 s_4 s_5 s_6).bind fun r469_3 =>
                          some r469_3
                          else none
                        else none
                      else
                        some ((((s_6.length : Nat) : Int) : Int) == 0)
theorem f34_broughamref35_Fits_ok (n : Nat) : ∀ (f_0 : Int) (f_1 : Int) (f_2 : List (Int × Int × List FT)) (s_0 : Int) (s_1 : Int) (s_2 : Int) (s_3 : Int) (s_4 : Int) (s_5 : List (Int × List Int)) (s_6 : List Int) (r : Bool) (h : f34_broughamref35_Fits n f_0 f_1 f_2 s_0 s_1 s_2 s_3 s_4 s_5 s_6 = some r), FnOK Tryd.prog 34 (f34_broughamref35_Fits_in f_0 f_1 f_2 s_0 s_1 s_2 s_3 s_4 s_5 s_6) (f34_broughamref35_Fits_out r) := by
  induction n with
  | zero => intro f_0 f_1 f_2 s_0 s_1 s_2 s_3 s_4 s_5 s_6 r h; rw [f34_broughamref35_Fits] at h; cases h
  | succ n ih =>
    intro f_0 f_1 f_2 s_0 s_1 s_2 s_3 s_4 s_5 s_6 r h
    rw [f34_broughamref35_Fits] at h
    refine At.fn (r := 0) Tryd.func34 rfl (by kernel_rfl) rfl rfl (by kernel_rfl) ?_
    show At Tryd.prog Tryd.f34 0 0 ⟨[(0, .one (.agg [zi f_0, zi f_1, .d (.sl (.pair (.int .i64) (.pair (.int .i64) .wood)) f_2)])), (1, .one (.agg [.d (.int .u16 s_0), .d (.int .u16 s_1), .d (.int .u32 s_2), .d (.int .u32 s_3), .d (.int .u8 s_4), .d (.sl (.pair (.int .u8) (.slice (.int .u8))) s_5), .d (.sl (.int .u8) s_6)]))], [], [], 0⟩ _
    refine At.step hm ht ⟨[], [], [], [2, 3], [0, 1]⟩ 1 ⟨[(2, oc (.ptr 0 0)), (3, oc (.ptr 1 0))], [], [(0, [zi f_0, zi f_1, .d (.sl (.pair (.int .i64) (.pair (.int .i64) .wood)) f_2)]), (1, [.d (.int .u16 s_0), .d (.int .u16 s_1), .d (.int .u32 s_2), .d (.int .u32 s_3), .d (.int .u8 s_4), .d (.sl (.pair (.int .u8) (.slice (.int .u8))) s_5), .d (.sl (.int .u8) s_6)])], 2⟩ [] (by kernel_rfl) trivial ?_
    refine At.step hm ht ⟨[], [], [], [2, 3, 7], [0, 1]⟩ 2 ⟨[(2, oc (.ptr 0 0)), (3, oc (.ptr 1 0)), (7, oc (zi f_0))], [], [(0, [zi f_0, zi f_1, .d (.sl (.pair (.int .i64) (.pair (.int .i64) .wood)) f_2)]), (1, [.d (.int .u16 s_0), .d (.int .u16 s_1), .d (.int .u32 s_2), .d (.int .u32 s_3), .d (.int .u8 s_4), .d (.sl (.pair (.int .u8) (.slice (.int .u8))) s_5), .d (.sl (.int .u8) s_6)])], 2⟩ [] (by kernel_rfl) trivial ?_
    rcases iteS h with ⟨b442_e0, h⟩ | ⟨b442_e0, h⟩
    · refine At.step hm ht ⟨[], [true], [], [], []⟩ 3 ⟨[], [], [], 0⟩ [((f_0 : Int) == 1) = true] (by kernel_rfl) ⟨b442_e0, trivial⟩ ?_
      have h := Option.some.inj h
      subst h
      exact At.fin hm ht ⟨[], [], [], [4], []⟩ [] (by kernel_rfl) trivial
    · refine At.step hm ht ⟨[], [false], [], [2, 3, 7], [0, 1]⟩ 4 ⟨[(2, oc (.ptr 0 0)), (3, oc (.ptr 1 0)), (7, oc (zi f_0))], [], [(0, [zi f_0, zi f_1, .d (.sl (.pair (.int .i64) (.pair (.int .i64) .wood)) f_2)]), (1, [.d (.int .u16 s_0), .d (.int .u16 s_1), .d (.int .u32 s_2), .d (.int .u32 s_3), .d (.int .u8 s_4), .d (.sl (.pair (.int .u8) (.slice (.int .u8))) s_5), .d (.sl (.int .u8) s_6)])], 2⟩ [((f_0 : Int) == 1) = false] (by kernel_rfl) ⟨b442_e0, trivial⟩ ?_
      rcases iteS h with ⟨b444_e0, h⟩ | ⟨b444_e0, h⟩
      · refine At.step hm ht ⟨[], [true], [], [2, 3], [0, 1]⟩ 5 ⟨[(2, oc (.ptr 0 0)), (3, oc (.ptr 1 0))], [], [(0, [zi f_0, zi f_1, .d (.sl (.pair (.int .i64) (.pair (.int .i64) .wood)) f_2)]), (1, [.d (.int .u16 s_0), .d (.int .u16 s_1), .d (.int .u32 s_2), .d (.int .u32 s_3), .d (.int .u8 s_4), .d (.sl (.pair (.int .u8) (.slice (.int .u8))) s_5), .d (.sl (.int .u8) s_6)])], 2⟩ [((f_0 : Int) == 2) = true] (by kernel_rfl) ⟨b444_e0, trivial⟩ ?_
        obtain ⟨g445_0, h⟩ := ifS h
        have h := Option.some.inj h
        subst h
        exact At.fin hm ht ⟨[], [], [], [4], []⟩ [(f_1 : Int) ≠ 0, (2 : Int) ≠ 0] (by kernel_rfl) ⟨g445_0, (by decide), trivial⟩
      · refine At.step hm ht ⟨[], [false], [], [2, 3, 7], [0, 1]⟩ 6 ⟨[(2, oc (.ptr 0 0)), (3, oc (.ptr 1 0)), (7, oc (zi f_0))], [], [(0, [zi f_0, zi f_1, .d (.sl (.pair (.int .i64) (.pair (.int .i64) .wood)) f_2)]), (1, [.d (.int .u16 s_0), .d (.int .u16 s_1), .d (.int .u32 s_2), .d (.int .u32 s_3), .d (.int .u8 s_4), .d (.sl (.pair (.int .u8) (.slice (.int .u8))) s_5), .d (.sl (.int .u8) s_6)])], 2⟩ [((f_0 : Int) == 2) = false] (by kernel_rfl) ⟨b444_e0, trivial⟩ ?_
        rcases iteS h with ⟨b446_e0, h⟩ | ⟨b446_e0, h⟩
        · refine At.step hm ht ⟨[], [true], [], [2, 3], [0, 1]⟩ 7 ⟨[(2, oc (.ptr 0 0)), (3, oc (.ptr 1 0))], [], [(0, [zi f_0, zi f_1, .d (.sl (.pair (.int .i64) (.pair (.int .i64) .wood)) f_2)]), (1, [.d (.int .u16 s_0), .d (.int .u16 s_1), .d (.int .u32 s_2), .d (.int .u32 s_3), .d (.int .u8 s_4), .d (.sl (.pair (.int .u8) (.slice (.int .u8))) s_5), .d (.sl (.int .u8) s_6)])], 2⟩ [((f_0 : Int) == 3) = true] (by kernel_rfl) ⟨b446_e0, trivial⟩ ?_
          rcases iteS h with ⟨b447_6, h⟩ | ⟨b447_6, h⟩
          · have h := Option.some.inj h
            subst h
            exact At.fin hm ht ⟨[(6, .b true)], [], [], [4], []⟩ [(((IntKind.wrap .i64 s_0) : Int) == f_1) = true] (by kernel_rfl) ⟨b447_6, trivial⟩
          · have h := Option.some.inj h
            subst h
            exact At.fin hm ht ⟨[(6, .b false)], [], [], [4], []⟩ [(((IntKind.wrap .i64 s_0) : Int) == f_1) = false] (by kernel_rfl) ⟨b447_6, trivial⟩
        · refine At.step hm ht ⟨[], [false], [], [2, 3, 7], [0, 1]⟩ 8 ⟨[(2, oc (.ptr 0 0)), (3, oc (.ptr 1 0)), (7, oc (zi f_0))], [], [(0, [zi f_0, zi f_1, .d (.sl (.pair (.int .i64) (.pair (.int .i64) .wood)) f_2)]), (1, [.d (.int .u16 s_0), .d (.int .u16 s_1), .d (.int .u32 s_2), .d (.int .u32 s_3), .d (.int .u8 s_4), .d (.sl (.pair (.int .u8) (.slice (.int .u8))) s_5), .d (.sl (.int .u8) s_6)])], 2⟩ [((f_0 : Int) == 3) = false] (by kernel_rfl) ⟨b446_e0, trivial⟩ ?_
          rcases iteS h with ⟨b448_e0, h⟩ | ⟨b448_e0, h⟩
          · refine At.step hm ht ⟨[], [true], [], [2, 3], [0, 1]⟩ 9 ⟨[(2, oc (.ptr 0 0)), (3, oc (.ptr 1 0))], [], [(0, [zi f_0, zi f_1, .d (.sl (.pair (.int .i64) (.pair (.int .i64) .wood)) f_2)]), (1, [.d (.int .u16 s_0), .d (.int .u16 s_1), .d (.int .u32 s_2), .d (.int .u32 s_3), .d (.int .u8 s_4), .d (.sl (.pair (.int .u8) (.slice (.int .u8))) s_5), .d (.sl (.int .u8) s_6)])], 2⟩ [((f_0 : Int) == 4) = true] (by kernel_rfl) ⟨b448_e0, trivial⟩ ?_
            have h := Option.some.inj h
            subst h
            exact At.fin hm ht ⟨[], [], [], [4], []⟩ [] (by kernel_rfl) trivial
          · refine At.step hm ht ⟨[], [false], [], [2, 3, 7], [0, 1]⟩ 10 ⟨[(2, oc (.ptr 0 0)), (3, oc (.ptr 1 0)), (7, oc (zi f_0))], [], [(0, [zi f_0, zi f_1, .d (.sl (.pair (.int .i64) (.pair (.int .i64) .wood)) f_2)]), (1, [.d (.int .u16 s_0), .d (.int .u16 s_1), .d (.int .u32 s_2), .d (.int .u32 s_3), .d (.int .u8 s_4), .d (.sl (.pair (.int .u8) (.slice (.int .u8))) s_5), .d (.sl (.int .u8) s_6)])], 2⟩ [((f_0 : Int) == 4) = false] (by kernel_rfl) ⟨b448_e0, trivial⟩ ?_
            rcases iteS h with ⟨b450_e0, h⟩ | ⟨b450_e0, h⟩
            · refine At.step hm ht ⟨[], [true], [], [2, 3], [0, 1]⟩ 11 ⟨[(2, oc (.ptr 0 0)), (3, oc (.ptr 1 0))], [], [(0, [zi f_0, zi f_1, .d (.sl (.pair (.int .i64) (.pair (.int .i64) .wood)) f_2)]), (1, [.d (.int .u16 s_0), .d (.int .u16 s_1), .d (.int .u32 s_2), .d (.int .u32 s_3), .d (.int .u8 s_4), .d (.sl (.pair (.int .u8) (.slice (.int .u8))) s_5), .d (.sl (.int .u8) s_6)])], 2⟩ [((f_0 : Int) == 5) = true] (by kernel_rfl) ⟨b450_e0, trivial⟩ ?_
              have h := Option.some.inj h
              subst h
              exact At.fin hm ht ⟨[], [], [], [4], []⟩ [] (by kernel_rfl) trivial
            · refine At.step hm ht ⟨[], [false], [], [2, 3, 7], [0, 1]⟩ 12 ⟨[(2, oc (.ptr 0 0)), (3, oc (.ptr 1 0)), (7, oc (zi f_0))], [], [(0, [zi f_0, zi f_1, .d (.sl (.pair (.int .i64) (.pair (.int .i64) .wood)) f_2)]), (1, [.d (.int .u16 s_0), .d (.int .u16 s_1), .d (.int .u32 s_2), .d (.int .u32 s_3), .d (.int .u8 s_4), .d (.sl (.pair (.int .u8) (.slice (.int .u8))) s_5), .d (.sl (.int .u8) s_6)])], 2⟩ [((f_0 : Int) == 5) = false] (by kernel_rfl) ⟨b450_e0, trivial⟩ ?_
              rcases iteS h with ⟨b452_e0, h⟩ | ⟨b452_e0, h⟩
              · refine At.step hm ht ⟨[], [true], [], [2, 3], [0, 1]⟩ 13 ⟨[(2, oc (.ptr 0 0)), (3, oc (.ptr 1 0))], [], [(0, [zi f_0, zi f_1, .d (.sl (.pair (.int .i64) (.pair (.int .i64) .wood)) f_2)]), (1, [.d (.int .u16 s_0), .d (.int .u16 s_1), .d (.int .u32 s_2), .d (.int .u32 s_3), .d (.int .u8 s_4), .d (.sl (.pair (.int .u8) (.slice (.int .u8))) s_5), .d (.sl (.int .u8) s_6)])], 2⟩ [((f_0 : Int) == 6) = true] (by kernel_rfl) ⟨b452_e0, trivial⟩ ?_
                refine At.step hm ht ⟨[], [], [], [2, 3, 5], [0, 1]⟩ 14 ⟨[(2, oc (.ptr 0 0)), (3, oc (.ptr 1 0)), (5, oc (zi 0))], [], [(0, [zi f_0, zi f_1, .d (.sl (.pair (.int .i64) (.pair (.int .i64) .wood)) f_2)]), (1, [.d (.int .u16 s_0), .d (.int .u16 s_1), .d (.int .u32 s_2), .d (.int .u32 s_3), .d (.int .u8 s_4), .d (.sl (.pair (.int .u8) (.slice (.int .u8))) s_5), .d (.sl (.int .u8) s_6)])], 2⟩ [] (by kernel_rfl) trivial ?_
                obtain ⟨w458, cw458, h⟩ := bindS h
                refine f34_broughamref35_Fits_L14_ok (f34_broughamref35_Fits n) ih n 0 f_0 f_1 f_2 s_0 s_1 s_2 s_3 s_4 s_5 s_6 w458 cw458 _ ?_
                rcases w458 with e459 | e460
                · have h := Option.some.inj h
                  subst h
                  rfl
                · show At Tryd.prog Tryd.f34 0 18 ⟨[], [], [], 0⟩ _
                  have h := Option.some.inj h
                  subst h
                  exact At.fin hm ht ⟨[], [], [], [4], []⟩ [] (by kernel_rfl) trivial
              · refine At.step hm ht ⟨[], [false], [], [2, 3, 7], [0, 1]⟩ 19 ⟨[(2, oc (.ptr 0 0)), (3, oc (.ptr 1 0)), (7, oc (zi f_0))], [], [(0, [zi f_0, zi f_1, .d (.sl (.pair (.int .i64) (.pair (.int .i64) .wood)) f_2)]), (1, [.d (.int .u16 s_0), .d (.int .u16 s_1), .d (.int .u32 s_2), .d (.int .u32 s_3), .d (.int .u8 s_4), .d (.sl (.pair (.int .u8) (.slice (.int .u8))) s_5), .d (.sl (.int .u8) s_6)])], 2⟩ [((f_0 : Int) == 6) = false] (by kernel_rfl) ⟨b452_e0, trivial⟩ ?_
                rcases iteS h with ⟨b462_e0, h⟩ | ⟨b462_e0, h⟩
                · refine At.step hm ht ⟨[], [true], [], [2, 3], [0, 1]⟩ 20 ⟨[(2, oc (.ptr 0 0)), (3, oc (.ptr 1 0))], [], [(0, [zi f_0, zi f_1, .d (.sl (.pair (.int .i64) (.pair (.int .i64) .wood)) f_2)]), (1, [.d (.int .u16 s_0), .d (.int .u16 s_1), .d (.int .u32 s_2), .d (.int .u32 s_3), .d (.int .u8 s_4), .d (.sl (.pair (.int .u8) (.slice (.int .u8))) s_5), .d (.sl (.int .u8) s_6)])], 2⟩ [((f_0 : Int) == 7) = true] (by kernel_rfl) ⟨b462_e0, trivial⟩ ?_
                  have h := Option.some.inj h
                  subst h
                  exact At.fin hm ht ⟨[], [], [], [4], []⟩ [] (by kernel_rfl) trivial
                · refine At.step hm ht ⟨[], [false], [], [2, 3, 7], [0, 1]⟩ 21 ⟨[(2, oc (.ptr 0 0)), (3, oc (.ptr 1 0)), (7, oc (zi f_0))], [], [(0, [zi f_0, zi f_1, .d (.sl (.pair (.int .i64) (.pair (.int .i64) .wood)) f_2)]), (1, [.d (.int .u16 s_0), .d (.int .u16 s_1), .d (.int .u32 s_2), .d (.int .u32 s_3), .d (.int .u8 s_4), .d (.sl (.pair (.int .u8) (.slice (.int .u8))) s_5), .d (.sl (.int .u8) s_6)])], 2⟩ [((f_0 : Int) == 7) = false] (by kernel_rfl) ⟨b462_e0, trivial⟩ ?_
                  rcases iteS h with ⟨b464_e0, h⟩ | ⟨b464_e0, h⟩
                  · refine At.step hm ht ⟨[], [true], [], [2, 3], [0, 1]⟩ 22 ⟨[(2, oc (.ptr 0 0)), (3, oc (.ptr 1 0))], [], [(0, [zi f_0, zi f_1, .d (.sl (.pair (.int .i64) (.pair (.int .i64) .wood)) f_2)]), (1, [.d (.int .u16 s_0), .d (.int .u16 s_1), .d (.int .u32 s_2), .d (.int .u32 s_3), .d (.int .u8 s_4), .d (.sl (.pair (.int .u8) (.slice (.int .u8))) s_5), .d (.sl (.int .u8) s_6)])], 2⟩ [((f_0 : Int) == 8) = true] (by kernel_rfl) ⟨b464_e0, trivial⟩ ?_
                    obtain ⟨g465_0, h⟩ := ifS h
                    obtain ⟨r465_1, cr465_1, h⟩ := bindS h
                    have h := Option.some.inj h
                    subst h
                    exact At.fin hm ht ⟨[(5, .call [] [] (f34_broughamref35_Fits_out r465_1))], [], [], [4], []⟩ [(0 : Int) ≤ 0 ∧ 0 < (((f_2).length : Nat) : Int), FnOK Tryd.prog 34 (f34_broughamref35_Fits_in ((f_2.getD 0 (0, (0, []))).1) (((f_2.getD 0 (0, (0, []))).2).1) ((((f_2.getD 0 (0, (0, []))).2).2).map FT.un) s_0 s_1 s_2 s_3 s_4 s_5 s_6) (f34_broughamref35_Fits_out r465_1)] (by kernel_rfl) ⟨g465_0, (ih ((f_2.getD 0 (0, (0, []))).1) (((f_2.getD 0 (0, (0, []))).2).1) ((((f_2.getD 0 (0, (0, []))).2).2).map FT.un) s_0 s_1 s_2 s_3 s_4 s_5 s_6 r465_1 cr465_1), trivial⟩
                  · refine At.step hm ht ⟨[], [false], [], [2, 3, 7], [0, 1]⟩ 23 ⟨[(2, oc (.ptr 0 0)), (3, oc (.ptr 1 0)), (7, oc (zi f_0))], [], [(0, [zi f_0, zi f_1, .d (.sl (.pair (.int .i64) (.pair (.int .i64) .wood)) f_2)]), (1, [.d (.int .u16 s_0), .d (.int .u16 s_1), .d (.int .u32 s_2), .d (.int .u32 s_3), .d (.int .u8 s_4), .d (.sl (.pair (.int .u8) (.slice (.int .u8))) s_5), .d (.sl (.int .u8) s_6)])], 2⟩ [((f_0 : Int) == 8) = false] (by kernel_rfl) ⟨b464_e0, trivial⟩ ?_
                    rcases iteS h with ⟨b466_e0, h⟩ | ⟨b466_e0, h⟩
                    · refine At.step hm ht ⟨[], [true], [], [2, 3], [0, 1]⟩ 24 ⟨[(2, oc (.ptr 0 0)), (3, oc (.ptr 1 0))], [], [(0, [zi f_0, zi f_1, .d (.sl (.pair (.int .i64) (.pair (.int .i64) .wood)) f_2)]), (1, [.d (.int .u16 s_0), .d (.int .u16 s_1), .d (.int .u32 s_2), .d (.int .u32 s_3), .d (.int .u8 s_4), .d (.sl (.pair (.int .u8) (.slice (.int .u8))) s_5), .d (.sl (.int .u8) s_6)])], 2⟩ [((f_0 : Int) == 9) = true] (by kernel_rfl) ⟨b466_e0, trivial⟩ ?_
                      obtain ⟨g467_0, h⟩ := ifS h
                      obtain ⟨r467_1, cr467_1, h⟩ := bindS h
                      rcases iteS h with ⟨b467_6, h⟩ | ⟨b467_6, h⟩
                      · obtain ⟨g467_2, h⟩ := ifS h
                        obtain ⟨r467_3, cr467_3, h⟩ := bindS h
                        have h := Option.some.inj h
                        subst h
                        exact At.fin hm ht ⟨[(5, .call [] [] (f34_broughamref35_Fits_out r467_1)), (6, .b true), (12, .call [] [] (f34_broughamref35_Fits_out r467_3))], [], [], [4], []⟩ [(0 : Int) ≤ 0 ∧ 0 < (((f_2).length : Nat) : Int), FnOK Tryd.prog 34 (f34_broughamref35_Fits_in ((f_2.getD 0 (0, (0, []))).1) (((f_2.getD 0 (0, (0, []))).2).1) ((((f_2.getD 0 (0, (0, []))).2).2).map FT.un) s_0 s_1 s_2 s_3 s_4 s_5 s_6) (f34_broughamref35_Fits_out r467_1), r467_1 = true, (0 : Int) ≤ 1 ∧ 1 < (((f_2).length : Nat) : Int), FnOK Tryd.prog 34 (f34_broughamref35_Fits_in ((f_2.getD 1 (0, (0, []))).1) (((f_2.getD 1 (0, (0, []))).2).1) ((((f_2.getD 1 (0, (0, []))).2).2).map FT.un) s_0 s_1 s_2 s_3 s_4 s_5 s_6) (f34_broughamref35_Fits_out r467_3)] (by kernel_rfl) ⟨g467_0, (ih ((f_2.getD 0 (0, (0, []))).1) (((f_2.getD 0 (0, (0, []))).2).1) ((((f_2.getD 0 (0, (0, []))).2).2).map FT.un) s_0 s_1 s_2 s_3 s_4 s_5 s_6 r467_1 cr467_1), b467_6, g467_2, (ih ((f_2.getD 1 (0, (0, []))).1) (((f_2.getD 1 (0, (0, []))).2).1) ((((f_2.getD 1 (0, (0, []))).2).2).map FT.un) s_0 s_1 s_2 s_3 s_4 s_5 s_6 r467_3 cr467_3), trivial⟩
                      · have h := Option.some.inj h
                        subst h
                        exact At.fin hm ht ⟨[(5, .call [] [] (f34_broughamref35_Fits_out r467_1)), (6, .b false)], [], [], [4], []⟩ [(0 : Int) ≤ 0 ∧ 0 < (((f_2).length : Nat) : Int), FnOK Tryd.prog 34 (f34_broughamref35_Fits_in ((f_2.getD 0 (0, (0, []))).1) (((f_2.getD 0 (0, (0, []))).2).1) ((((f_2.getD 0 (0, (0, []))).2).2).map FT.un) s_0 s_1 s_2 s_3 s_4 s_5 s_6) (f34_broughamref35_Fits_out r467_1), r467_1 = false] (by kernel_rfl) ⟨g467_0, (ih ((f_2.getD 0 (0, (0, []))).1) (((f_2.getD 0 (0, (0, []))).2).1) ((((f_2.getD 0 (0, (0, []))).2).2).map FT.un) s_0 s_1 s_2 s_3 s_4 s_5 s_6 r467_1 cr467_1), b467_6, trivial⟩
                    · refine At.step hm ht ⟨[], [false], [], [2, 3, 7], [0, 1]⟩ 25 ⟨[(2, oc (.ptr 0 0)), (3, oc (.ptr 1 0)), (7, oc (zi f_0))], [], [(0, [zi f_0, zi f_1, .d (.sl (.pair (.int .i64) (.pair (.int .i64) .wood)) f_2)]), (1, [.d (.int .u16 s_0), .d (.int .u16 s_1), .d (.int .u32 s_2), .d (.int .u32 s_3), .d (.int .u8 s_4), .d (.sl (.pair (.int .u8) (.slice (.int .u8))) s_5), .d (.sl (.int .u8) s_6)])], 2⟩ [((f_0 : Int) == 9) = false] (by kernel_rfl) ⟨b466_e0, trivial⟩ ?_
                      rcases iteS h with ⟨b468_e0, h⟩ | ⟨b468_e0, h⟩
                      · refine At.step hm ht ⟨[], [true], [], [2, 3], [0, 1]⟩ 26 ⟨[(2, oc (.ptr 0 0)), (3, oc (.ptr 1 0))], [], [(0, [zi f_0, zi f_1, .d (.sl (.pair (.int .i64) (.pair (.int .i64) .wood)) f_2)]), (1, [.d (.int .u16 s_0), .d (.int .u16 s_1), .d (.int .u32 s_2), .d (.int .u32 s_3), .d (.int .u8 s_4), .d (.sl (.pair (.int .u8) (.slice (.int .u8))) s_5), .d (.sl (.int .u8) s_6)])], 2⟩ [((f_0 : Int) == 10) = true] (by kernel_rfl) ⟨b468_e0, trivial⟩ ?_
                        obtain ⟨g469_0, h⟩ := ifS h
                        obtain ⟨r469_1, cr469_1, h⟩ := bindS h
                        rcases iteS h with ⟨b469_6, h⟩ | ⟨b469_6, h⟩
                        · have h := Option.some.inj h
                          subst h
                          exact At.fin hm ht ⟨[(5, .call [] [] (f34_broughamref35_Fits_out r469_1)), (6, .b true)], [], [], [4], []⟩ [(0 : Int) ≤ 0 ∧ 0 < (((f_2).length : Nat) : Int), FnOK Tryd.prog 34 (f34_broughamref35_Fits_in ((f_2.getD 0 (0, (0, []))).1) (((f_2.getD 0 (0, (0, []))).2).1) ((((f_2.getD 0 (0, (0, []))).2).2).map FT.un) s_0 s_1 s_2 s_3 s_4 s_5 s_6) (f34_broughamref35_Fits_out r469_1), r469_1 = true] (by kernel_rfl) ⟨g469_0, (ih ((f_2.getD 0 (0, (0, []))).1) (((f_2.getD 0 (0, (0, []))).2).1) ((((f_2.getD 0 (0, (0, []))).2).2).map FT.un) s_0 s_1 s_2 s_3 s_4 s_5 s_6 r469_1 cr469_1), b469_6, trivial⟩
                        · obtain ⟨g469_2, h⟩ := ifS h
                          obtain ⟨r469_3, cr469_3, h⟩ := bindS h
                          have h := Option.some.inj h
                          subst h
                          exact At.fin hm ht ⟨[(5, .call [] [] (f34_broughamref35_Fits_out r469_1)), (6, .b false), (12, .call [] [] (f34_broughamref35_Fits_out r469_3))], [], [], [4], []⟩ [(0 : Int) ≤ 0 ∧ 0 < (((f_2).length : Nat) : Int), FnOK Tryd.prog 34 (f34_broughamref35_Fits_in ((f_2.getD 0 (0, (0, []))).1) (((f_2.getD 0 (0, (0, []))).2).1) ((((f_2.getD 0 (0, (0, []))).2).2).map FT.un) s_0 s_1 s_2 s_3 s_4 s_5 s_6) (f34_broughamref35_Fits_out r469_1), r469_1 = false, (0 : Int) ≤ 1 ∧ 1 < (((f_2).length : Nat) : Int), FnOK Tryd.prog 34 (f34_broughamref35_Fits_in ((f_2.getD 1 (0, (0, []))).1) (((f_2.getD 1 (0, (0, []))).2).1) ((((f_2.getD 1 (0, (0, []))).2).2).map FT.un) s_0 s_1 s_2 s_3 s_4 s_5 s_6) (f34_broughamref35_Fits_out r469_3)] (by kernel_rfl) ⟨g469_0, (ih ((f_2.getD 0 (0, (0, []))).1) (((f_2.getD 0 (0, (0, []))).2).1) ((((f_2.getD 0 (0, (0, []))).2).2).map FT.un) s_0 s_1 s_2 s_3 s_4 s_5 s_6 r469_1 cr469_1), b469_6, g469_2, (ih ((f_2.getD 1 (0, (0, []))).1) (((f_2.getD 1 (0, (0, []))).2).1) ((((f_2.getD 1 (0, (0, []))).2).2).map FT.un) s_0 s_1 s_2 s_3 s_4 s_5 s_6 r469_3 cr469_3), trivial⟩
                      · refine At.step hm ht ⟨[], [false], [], [3], [1]⟩ 27 ⟨[(3, oc (.ptr 0 0))], [], [(0, [.d (.int .u16 s_0), .d (.int .u16 s_1), .d (.int .u32 s_2), .d (.int .u32 s_3), .d (.int .u8 s_4), .d (.sl (.pair (.int .u8) (.slice (.int .u8))) s_5), .d (.sl (.int .u8) s_6)])], 1⟩ [((f_0 : Int) == 10) = false] (by kernel_rfl) ⟨b468_e0, trivial⟩ ?_
                        have h := Option.some.inj h
                        subst h
                        exact At.fin hm ht ⟨[], [], [], [4], []⟩ [] (by kernel_rfl) trivial
/-! brougham/broughamref35.word -/
def f61_broughamref35_word_in (op : Int) : Inn := ⟨[.c (zi op)], [], [], 0⟩
def f61_broughamref35_word_out (r : ByteArray) : Out := ⟨oc (.d (.str r)), [], [], 0⟩
def f61_broughamref35_word (op : Int) : Option (ByteArray) :=
  if ((op : Int) == 1) = true then
    some (⟨#[97, 108, 108]⟩ : ByteArray)
  else
    if ((op : Int) == 3) = true then
      some (⟨#[112, 111, 114, 116]⟩ : ByteArray)
    else
      if ((op : Int) == 4) = true then
        some (⟨#[115, 114, 99]⟩ : ByteArray)
      else
        if ((op : Int) == 5) = true then
          some (⟨#[100, 115, 116]⟩ : ByteArray)
        else
          if ((op : Int) == 6) = true then
            some (⟨#[104, 97, 115]⟩ : ByteArray)
          else
            if ((op : Int) == 7) = true then
              some (⟨#[108, 111, 110, 103]⟩ : ByteArray)
            else
              some (⟨#[101, 109, 112, 116, 121]⟩ : ByteArray)
theorem f61_broughamref35_word_ok (op : Int) (r : ByteArray) (h : f61_broughamref35_word op = some r) : FnOK Tryd.prog 61 (f61_broughamref35_word_in op) (f61_broughamref35_word_out r) := by
  unfold f61_broughamref35_word at h
  refine At.fn (r := 0) Tryd.func61 rfl (by kernel_rfl) rfl rfl (by kernel_rfl) ?_
  show At Tryd.prog Tryd.f61 0 0 ⟨[(0, oc (zi op))], [], [], 0⟩ _
  refine At.step hm ht ⟨[], [], [], [0], []⟩ 1 ⟨[(0, oc (zi op))], [], [], 0⟩ [] (by kernel_rfl) trivial ?_
  refine At.step hm ht ⟨[], [], [], [3], []⟩ 2 ⟨[(3, oc (zi op))], [], [], 0⟩ [] (by kernel_rfl) trivial ?_
  rcases iteS h with ⟨b481_e0, h⟩ | ⟨b481_e0, h⟩
  · refine At.step hm ht ⟨[], [true], [], [], []⟩ 3 ⟨[], [], [], 0⟩ [((op : Int) == 1) = true] (by kernel_rfl) ⟨b481_e0, trivial⟩ ?_
    have h := Option.some.inj h
    subst h
    exact At.fin hm ht ⟨[], [], [], [2], []⟩ [] (by kernel_rfl) trivial
  · refine At.step hm ht ⟨[], [false], [], [3], []⟩ 4 ⟨[(3, oc (zi op))], [], [], 0⟩ [((op : Int) == 1) = false] (by kernel_rfl) ⟨b481_e0, trivial⟩ ?_
    rcases iteS h with ⟨b483_e0, h⟩ | ⟨b483_e0, h⟩
    · refine At.step hm ht ⟨[], [true], [], [], []⟩ 5 ⟨[], [], [], 0⟩ [((op : Int) == 3) = true] (by kernel_rfl) ⟨b483_e0, trivial⟩ ?_
      have h := Option.some.inj h
      subst h
      exact At.fin hm ht ⟨[], [], [], [2], []⟩ [] (by kernel_rfl) trivial
    · refine At.step hm ht ⟨[], [false], [], [3], []⟩ 6 ⟨[(3, oc (zi op))], [], [], 0⟩ [((op : Int) == 3) = false] (by kernel_rfl) ⟨b483_e0, trivial⟩ ?_
      rcases iteS h with ⟨b485_e0, h⟩ | ⟨b485_e0, h⟩
      · refine At.step hm ht ⟨[], [true], [], [], []⟩ 7 ⟨[], [], [], 0⟩ [((op : Int) == 4) = true] (by kernel_rfl) ⟨b485_e0, trivial⟩ ?_
        have h := Option.some.inj h
        subst h
        exact At.fin hm ht ⟨[], [], [], [2], []⟩ [] (by kernel_rfl) trivial
      · refine At.step hm ht ⟨[], [false], [], [3], []⟩ 8 ⟨[(3, oc (zi op))], [], [], 0⟩ [((op : Int) == 4) = false] (by kernel_rfl) ⟨b485_e0, trivial⟩ ?_
        rcases iteS h with ⟨b487_e0, h⟩ | ⟨b487_e0, h⟩
        · refine At.step hm ht ⟨[], [true], [], [], []⟩ 9 ⟨[], [], [], 0⟩ [((op : Int) == 5) = true] (by kernel_rfl) ⟨b487_e0, trivial⟩ ?_
          have h := Option.some.inj h
          subst h
          exact At.fin hm ht ⟨[], [], [], [2], []⟩ [] (by kernel_rfl) trivial
        · refine At.step hm ht ⟨[], [false], [], [3], []⟩ 10 ⟨[(3, oc (zi op))], [], [], 0⟩ [((op : Int) == 5) = false] (by kernel_rfl) ⟨b487_e0, trivial⟩ ?_
          rcases iteS h with ⟨b489_e0, h⟩ | ⟨b489_e0, h⟩
          · refine At.step hm ht ⟨[], [true], [], [], []⟩ 11 ⟨[], [], [], 0⟩ [((op : Int) == 6) = true] (by kernel_rfl) ⟨b489_e0, trivial⟩ ?_
            have h := Option.some.inj h
            subst h
            exact At.fin hm ht ⟨[], [], [], [2], []⟩ [] (by kernel_rfl) trivial
          · refine At.step hm ht ⟨[], [false], [], [3], []⟩ 12 ⟨[(3, oc (zi op))], [], [], 0⟩ [((op : Int) == 6) = false] (by kernel_rfl) ⟨b489_e0, trivial⟩ ?_
            rcases iteS h with ⟨b491_e0, h⟩ | ⟨b491_e0, h⟩
            · refine At.step hm ht ⟨[], [true], [], [], []⟩ 13 ⟨[], [], [], 0⟩ [((op : Int) == 7) = true] (by kernel_rfl) ⟨b491_e0, trivial⟩ ?_
              have h := Option.some.inj h
              subst h
              exact At.fin hm ht ⟨[], [], [], [2], []⟩ [] (by kernel_rfl) trivial
            · refine At.step hm ht ⟨[], [false], [], [], []⟩ 14 ⟨[], [], [], 0⟩ [((op : Int) == 7) = false] (by kernel_rfl) ⟨b491_e0, trivial⟩ ?_
              have h := Option.some.inj h
              subst h
              exact At.fin hm ht ⟨[], [], [], [2], []⟩ [] (by kernel_rfl) trivial
/-! brougham/broughamref01.Text -/
def f62_broughamref01_Text_in (n_ : Int) : Inn := ⟨[.c (zi n_)], [], [], 0⟩
def f62_broughamref01_Text_out (r : ByteArray) : Out := ⟨oc (.d (.str r)), [], [], 0⟩
def f62_broughamref01_Text : Nat → Int → Option (ByteArray)
  | 0, _ => none
  | n + 1, n_ =>
    if (decide ((n_ : Int) < 10)) = true then
      if (decide ((n_ : Int) < 0)) = true then
        if cutOk (⟨#[48, 49, 50, 51, 52, 53, 54, 55, 56, 57]⟩ : ByteArray).size (some 0) (some (IntKind.wrap .i64 (0 + 1))) none then
        some ((⟨#[48, 49, 50, 51, 52, 53, 54, 55, 56, 57]⟩ : ByteArray).extract 0 (IntKind.wrap .i64 (0 + 1)).toNat)
        else none
      else
        if cutOk (⟨#[48, 49, 50, 51, 52, 53, 54, 55, 56, 57]⟩ : ByteArray).size (some n_) (some (IntKind.wrap .i64 (n_ + 1))) none then
        some ((⟨#[48, 49, 50, 51, 52, 53, 54, 55, 56, 57]⟩ : ByteArray).extract n_.toNat (IntKind.wrap .i64 (n_ + 1)).toNat)
        else none
    else
      ((f62_broughamref01_Text n) (IntKind.wrap .i64 (Int.tdiv n_ 10))).bind fun r500_0 =>
      if cutOk (⟨#[48, 49, 50, 51, 52, 53, 54, 55, 56, 57]⟩ : ByteArray).size (some (Int.tmod n_ 10)) (some (IntKind.wrap .i64 ((Int.tmod n_ 10) + 1))) none then
      if r500_0.size + ((⟨#[48, 49, 50, 51, 52, 53, 54, 55, 56, 57]⟩ : ByteArray).extract (Int.tmod n_ 10).toNat (IntKind.wrap .i64 ((Int.tmod n_ 10) + 1)).toNat).size ≤ 9223372036854775807 then
      some (r500_0 ++ ((⟨#[48, 49, 50, 51, 52, 53, 54, 55, 56, 57]⟩ : ByteArray).extract (Int.tmod n_ 10).toNat (IntKind.wrap .i64 ((Int.tmod n_ 10) + 1)).toNat))
      else none
      else none
theorem f62_broughamref01_Text_ok (n : Nat) : ∀ (n_ : Int) (r : ByteArray) (h : f62_broughamref01_Text n n_ = some r), FnOK Tryd.prog 62 (f62_broughamref01_Text_in n_) (f62_broughamref01_Text_out r) := by
  induction n with
  | zero => intro n_ r h; rw [f62_broughamref01_Text] at h; cases h
  | succ n ih =>
    intro n_ r h
    rw [f62_broughamref01_Text] at h
    refine At.fn (r := 0) Tryd.func62 rfl (by kernel_rfl) rfl rfl (by kernel_rfl) ?_
    show At Tryd.prog Tryd.f62 0 0 ⟨[(0, oc (zi n_))], [], [], 0⟩ _
    refine At.step hm ht ⟨[], [], [], [0], []⟩ 1 ⟨[(0, oc (zi n_))], [], [], 0⟩ [] (by kernel_rfl) trivial ?_
    rcases iteS h with ⟨b495_e0, h⟩ | ⟨b495_e0, h⟩
    · refine At.step hm ht ⟨[], [true], [], [0], []⟩ 2 ⟨[(0, oc (zi n_))], [], [], 0⟩ [(decide ((n_ : Int) < 10)) = true] (by kernel_rfl) ⟨b495_e0, trivial⟩ ?_
      rcases iteS h with ⟨b496_e0, h⟩ | ⟨b496_e0, h⟩
      · refine At.step hm ht ⟨[], [true], [], [], []⟩ 3 ⟨[], [], [], 0⟩ [(decide ((n_ : Int) < 0)) = true] (by kernel_rfl) ⟨b496_e0, trivial⟩ ?_
        refine At.step hm ht ⟨[], [], [], [0], []⟩ 4 ⟨[(0, oc (zi 0))], [], [], 0⟩ [] (by kernel_rfl) trivial ?_
        obtain ⟨g498_0, h⟩ := ifS h
        have h := Option.some.inj h
        subst h
        exact At.fin hm ht ⟨[], [], [], [2], []⟩ [cutOk (⟨#[48, 49, 50, 51, 52, 53, 54, 55, 56, 57]⟩ : ByteArray).size (some 0) (some (IntKind.wrap .i64 (0 + 1))) none] (by kernel_rfl) ⟨g498_0, trivial⟩
      · refine At.step hm ht ⟨[], [false], [], [0], []⟩ 4 ⟨[(0, oc (zi n_))], [], [], 0⟩ [(decide ((n_ : Int) < 0)) = false] (by kernel_rfl) ⟨b496_e0, trivial⟩ ?_
        obtain ⟨g499_0, h⟩ := ifS h
        have h := Option.some.inj h
        subst h
        exact At.fin hm ht ⟨[], [], [], [2], []⟩ [cutOk (⟨#[48, 49, 50, 51, 52, 53, 54, 55, 56, 57]⟩ : ByteArray).size (some n_) (some (IntKind.wrap .i64 (n_ + 1))) none] (by kernel_rfl) ⟨g499_0, trivial⟩
    · refine At.step hm ht ⟨[], [false], [], [0], []⟩ 5 ⟨[(0, oc (zi n_))], [], [], 0⟩ [(decide ((n_ : Int) < 10)) = false] (by kernel_rfl) ⟨b495_e0, trivial⟩ ?_
      obtain ⟨r500_0, cr500_0, h⟩ := bindS h
      obtain ⟨g500_1, h⟩ := ifS h
      obtain ⟨g500_2, h⟩ := ifS h
      have h := Option.some.inj h
      subst h
      exact At.fin hm ht ⟨[(2, .call [] [] (f62_broughamref01_Text_out r500_0))], [], [], [2], []⟩ [(10 : Int) ≠ 0, FnOK Tryd.prog 62 (f62_broughamref01_Text_in (IntKind.wrap .i64 (Int.tdiv n_ 10))) (f62_broughamref01_Text_out r500_0), (10 : Int) ≠ 0, (10 : Int) ≠ 0, cutOk (⟨#[48, 49, 50, 51, 52, 53, 54, 55, 56, 57]⟩ : ByteArray).size (some (Int.tmod n_ 10)) (some (IntKind.wrap .i64 ((Int.tmod n_ 10) + 1))) none, r500_0.size + ((⟨#[48, 49, 50, 51, 52, 53, 54, 55, 56, 57]⟩ : ByteArray).extract (Int.tmod n_ 10).toNat (IntKind.wrap .i64 ((Int.tmod n_ 10) + 1)).toNat).size ≤ 9223372036854775807] (by kernel_rfl) ⟨(by decide), (ih (IntKind.wrap .i64 (Int.tdiv n_ 10)) r500_0 cr500_0), (by decide), (by decide), g500_1, g500_2, trivial⟩
/-! brougham/broughamref35.Text -/
def f35_broughamref35_Text_in (f_0 : Int) (f_1 : Int) (f_2 : List (Int × Int × List FT)) : Inn := ⟨[.agg [zi f_0, zi f_1, .d (.sl (.pair (.int .i64) (.pair (.int .i64) .wood)) f_2)]], [], [], 0⟩
def f35_broughamref35_Text_out (r : ByteArray) : Out := ⟨oc (.d (.str r)), [], [], 0⟩
def f35_broughamref35_Text_L9 (rc_f35_broughamref35_Text : Int → Int → (List (Int × Int × List FT)) → Option (ByteArray)) : Nat → Int → Int → (List (Int × Int × List FT)) → Option (ByteArray)
  | 0, _, _, _ => none
  | n + 1, f_0, f_1, f_2 =>
    (f61_broughamref35_word f_0).bind fun r478_0 =>
    if r478_0.size + (⟨#[32]⟩ : ByteArray).size ≤ 9223372036854775807 then
    (f62_broughamref01_Text n f_1).bind fun r478_2 =>
    if (r478_0 ++ (⟨#[32]⟩ : ByteArray)).size + r478_2.size ≤ 9223372036854775807 then
    some (((r478_0 ++ (⟨#[32]⟩ : ByteArray)) ++ r478_2))
    else none
    else none
def f35_broughamref35_Text_L9_k (e : ByteArray) (o : Out) : Prop := o = f35_broughamref35_Text_out e
theorem f35_broughamref35_Text_L9_ok (rc_f35_broughamref35_Text : Int → Int → (List (Int × Int × List FT)) → Option (ByteArray)) (hrc_f35_broughamref35_Text : ∀ (f_0 : Int) (f_1 : Int) (f_2 : List (Int × Int × List FT)) (r : ByteArray) (h : rc_f35_broughamref35_Text f_0 f_1 f_2 = some r), FnOK Tryd.prog 35 (f35_broughamref35_Text_in f_0 f_1 f_2) (f35_broughamref35_Text_out r)) (n : Nat) : ∀ (f_0 : Int) (f_1 : Int) (f_2 : List (Int × Int × List FT)) (w : ByteArray) (h : f35_broughamref35_Text_L9 rc_f35_broughamref35_Text n f_0 f_1 f_2 = some w) (o : Out) (hk : f35_broughamref35_Text_L9_k w o), At Tryd.prog Tryd.f35 0 9 ⟨[(1, oc (.ptr 0 0))], [], [(0, [zi f_0, zi f_1, .d (.sl (.pair (.int .i64) (.pair (.int .i64) .wood)) f_2)])], 1⟩ o := by
  induction n with
  | zero => intro f_0 f_1 f_2 w h; rw [f35_broughamref35_Text_L9] at h; cases h
  | succ n ih =>
    intro f_0 f_1 f_2 w h o hk
    rw [f35_broughamref35_Text_L9] at h
    obtain ⟨r478_0, cr478_0, h⟩ := bindS h
    obtain ⟨g478_1, h⟩ := ifS h
    obtain ⟨r478_2, cr478_2, h⟩ := bindS h
    obtain ⟨g478_3, h⟩ := ifS h
    have h := Option.some.inj h
    subst h
    have hk : o = f35_broughamref35_Text_out ((r478_0 ++ (⟨#[32]⟩ : ByteArray)) ++ r478_2) := hk
    subst hk
    exact At.fin hm ht ⟨[(2, .call [] [] (f61_broughamref35_word_out r478_0)), (6, .call [] [] (f62_broughamref01_Text_out r478_2))], [], [], [2], []⟩ [FnOK Tryd.prog 61 (f61_broughamref35_word_in f_0) (f61_broughamref35_word_out r478_0), r478_0.size + (⟨#[32]⟩ : ByteArray).size ≤ 9223372036854775807, FnOK Tryd.prog 62 (f62_broughamref01_Text_in f_1) (f62_broughamref01_Text_out r478_2), (r478_0 ++ (⟨#[32]⟩ : ByteArray)).size + r478_2.size ≤ 9223372036854775807] (by kernel_rfl) ⟨(f61_broughamref35_word_ok f_0 r478_0 cr478_0), g478_1, (f62_broughamref01_Text_ok n f_1 r478_2 cr478_2), g478_3, trivial⟩
def f35_broughamref35_Text_L10 (rc_f35_broughamref35_Text : Int → Int → (List (Int × Int × List FT)) → Option (ByteArray)) : Nat → Int → Int → Int → (List (Int × Int × List FT)) → Option (ByteArray)
  | 0, _, _, _, _ => none
  | n + 1, t4, f_0, f_1, f_2 =>
    if ((t4 : Int) == 8) = true then
      if (0 : Int) ≤ 0 ∧ 0 < (((f_2).length : Nat) : Int) then
      (rc_f35_broughamref35_Text ((f_2.getD 0 (0, (0, []))).1) (((f_2.getD 0 (0, (0, []))).2).1) ((((f_2.getD 0 (0, (0, []))).2).2).map FT.un)).bind fun r504_1 =>
      if (⟨#[40, 32, 110, 111, 116, 32]⟩ : ByteArray).size + r504_1.size ≤ 9223372036854775807 then
      if ((⟨#[40, 32, 110, 111, 116, 32]⟩ : ByteArray) ++ r504_1).size + (⟨#[32, 41]⟩ : ByteArray).size ≤ 9223372036854775807 then
      some ((((⟨#[40, 32, 110, 111, 116, 32]⟩ : ByteArray) ++ r504_1) ++ (⟨#[32, 41]⟩ : ByteArray)))
      else none
      else none
      else none
    else
      if ((t4 : Int) == 9) = true then
        if (0 : Int) ≤ 0 ∧ 0 < (((f_2).length : Nat) : Int) then
        (rc_f35_broughamref35_Text ((f_2.getD 0 (0, (0, []))).1) (((f_2.getD 0 (0, (0, []))).2).1) ((((f_2.getD 0 (0, (0, []))).2).2).map FT.un)).bind fun r506_1 =>
        if (⟨#[40, 32]⟩ : ByteArray).size + r506_1.size ≤ 9223372036854775807 then
        if ((⟨#[40, 32]⟩ : ByteArray) ++ r506_1).size + (⟨#[32, 97, 110, 100, 32]⟩ : ByteArray).size ≤ 9223372036854775807 then
        if (0 : Int) ≤ 1 ∧ 1 < (((f_2).length : Nat) : Int) then
        (rc_f35_broughamref35_Text ((f_2.getD 1 (0, (0, []))).1) (((f_2.getD 1 (0, (0, []))).2).1) ((((f_2.getD 1 (0, (0, []))).2).2).map FT.un)).bind fun r506_5 =>
        if (((⟨#[40, 32]⟩ : ByteArray) ++ r506_1) ++ (⟨#[32, 97, 110, 100, 32]⟩ : ByteArray)).size + r506_5.size ≤ 9223372036854775807 then
        if ((((⟨#[40, 32]⟩ : ByteArray) ++ r506_1) ++ (⟨#[32, 97, 110, 100, 32]⟩ : ByteArray)) ++ r506_5).size + (⟨#[32, 41]⟩ : ByteArray).size ≤ 9223372036854775807 then
        some ((((((⟨#[40, 32]⟩ : ByteArray) ++ r506_1) ++ (⟨#[32, 97, 110, 100, 32]⟩ : ByteArray)) ++ r506_5) ++ (⟨#[32, 41]⟩ : ByteArray)))
        else none
        else none
        else none
        else none
        else none
        else none
      else
        if ((t4 : Int) == 10) = true then
          if (0 : Int) ≤ 0 ∧ 0 < (((f_2).length : Nat) : Int) then
          (rc_f35_broughamref35_Text ((f_2.getD 0 (0, (0, []))).1) (((f_2.getD 0 (0, (0, []))).2).1) ((((f_2.getD 0 (0, (0, []))).2).2).map FT.un)).bind fun r508_1 =>
          if (⟨#[40, 32]⟩ : ByteArray).size + r508_1.size ≤ 9223372036854775807 then
          if ((⟨#[40, 32]⟩ : ByteArray) ++ r508_1).size + (⟨#[32, 111, 114, 32]⟩ : ByteArray).size ≤ 9223372036854775807 then
          if (0 : Int) ≤ 1 ∧ 1 < (((f_2).length : Nat) : Int) then
          (rc_f35_broughamref35_Text ((f_2.getD 1 (0, (0, []))).1) (((f_2.getD 1 (0, (0, []))).2).1) ((((f_2.getD 1 (0, (0, []))).2).2).map FT.un)).bind fun r508_5 =>
          if (((⟨#[40, 32]⟩ : ByteArray) ++ r508_1) ++ (⟨#[32, 111, 114, 32]⟩ : ByteArray)).size + r508_5.size ≤ 9223372036854775807 then
          if ((((⟨#[40, 32]⟩ : ByteArray) ++ r508_1) ++ (⟨#[32, 111, 114, 32]⟩ : ByteArray)) ++ r508_5).size + (⟨#[32, 41]⟩ : ByteArray).size ≤ 9223372036854775807 then
          some ((((((⟨#[40, 32]⟩ : ByteArray) ++ r508_1) ++ (⟨#[32, 111, 114, 32]⟩ : ByteArray)) ++ r508_5) ++ (⟨#[32, 41]⟩ : ByteArray)))
          else none
          else none
          else none
          else none
          else none
          else none
        else
          (f61_broughamref35_word f_0).bind fun r509_0 =>
          some (r509_0)
def f35_broughamref35_Text_L10_k (e : ByteArray) (o : Out) : Prop := o = f35_broughamref35_Text_out e
theorem f35_broughamref35_Text_L10_ok (rc_f35_broughamref35_Text : Int → Int → (List (Int × Int × List FT)) → Option (ByteArray)) (hrc_f35_broughamref35_Text : ∀ (f_0 : Int) (f_1 : Int) (f_2 : List (Int × Int × List FT)) (r : ByteArray) (h : rc_f35_broughamref35_Text f_0 f_1 f_2 = some r), FnOK Tryd.prog 35 (f35_broughamref35_Text_in f_0 f_1 f_2) (f35_broughamref35_Text_out r)) (n : Nat) : ∀ (t4 : Int) (f_0 : Int) (f_1 : Int) (f_2 : List (Int × Int × List FT)) (w : ByteArray) (h : f35_broughamref35_Text_L10 rc_f35_broughamref35_Text n t4 f_0 f_1 f_2 = some w) (o : Out) (hk : f35_broughamref35_Text_L10_k w o), At Tryd.prog Tryd.f35 0 10 ⟨[(1, oc (.ptr 0 0)), (4, oc (zi t4))], [], [(0, [zi f_0, zi f_1, .d (.sl (.pair (.int .i64) (.pair (.int .i64) .wood)) f_2)])], 1⟩ o := by
  induction n with
  | zero => intro t4 f_0 f_1 f_2 w h; rw [f35_broughamref35_Text_L10] at h; cases h
  | succ n ih =>
    intro t4 f_0 f_1 f_2 w h o hk
    rw [f35_broughamref35_Text_L10] at h
    rcases iteS h with ⟨b503_e0, h⟩ | ⟨b503_e0, h⟩
    · refine At.step hm ht ⟨[], [true], [], [1], [0]⟩ 11 ⟨[(1, oc (.ptr 0 0))], [], [(0, [zi f_0, zi f_1, .d (.sl (.pair (.int .i64) (.pair (.int .i64) .wood)) f_2)])], 1⟩ [((t4 : Int) == 8) = true] (by kernel_rfl) ⟨b503_e0, trivial⟩ ?_
      obtain ⟨g504_0, h⟩ := ifS h
      obtain ⟨r504_1, cr504_1, h⟩ := bindS h
      obtain ⟨g504_2, h⟩ := ifS h
      obtain ⟨g504_3, h⟩ := ifS h
      have h := Option.some.inj h
      subst h
      have hk : o = f35_broughamref35_Text_out (((⟨#[40, 32, 110, 111, 116, 32]⟩ : ByteArray) ++ r504_1) ++ (⟨#[32, 41]⟩ : ByteArray)) := hk
      subst hk
      exact At.fin hm ht ⟨[(4, .call [] [] (f35_broughamref35_Text_out r504_1))], [], [], [2], []⟩ [(0 : Int) ≤ 0 ∧ 0 < (((f_2).length : Nat) : Int), FnOK Tryd.prog 35 (f35_broughamref35_Text_in ((f_2.getD 0 (0, (0, []))).1) (((f_2.getD 0 (0, (0, []))).2).1) ((((f_2.getD 0 (0, (0, []))).2).2).map FT.un)) (f35_broughamref35_Text_out r504_1), (⟨#[40, 32, 110, 111, 116, 32]⟩ : ByteArray).size + r504_1.size ≤ 9223372036854775807, ((⟨#[40, 32, 110, 111, 116, 32]⟩ : ByteArray) ++ r504_1).size + (⟨#[32, 41]⟩ : ByteArray).size ≤ 9223372036854775807] (by kernel_rfl) ⟨g504_0, (hrc_f35_broughamref35_Text ((f_2.getD 0 (0, (0, []))).1) (((f_2.getD 0 (0, (0, []))).2).1) ((((f_2.getD 0 (0, (0, []))).2).2).map FT.un) r504_1 cr504_1), g504_2, g504_3, trivial⟩
    · refine At.step hm ht ⟨[], [false], [], [1, 4], [0]⟩ 12 ⟨[(1, oc (.ptr 0 0)), (4, oc (zi t4))], [], [(0, [zi f_0, zi f_1, .d (.sl (.pair (.int .i64) (.pair (.int .i64) .wood)) f_2)])], 1⟩ [((t4 : Int) == 8) = false] (by kernel_rfl) ⟨b503_e0, trivial⟩ ?_
      rcases iteS h with ⟨b505_e0, h⟩ | ⟨b505_e0, h⟩
      · refine At.step hm ht ⟨[], [true], [], [1], [0]⟩ 13 ⟨[(1, oc (.ptr 0 0))], [], [(0, [zi f_0, zi f_1, .d (.sl (.pair (.int .i64) (.pair (.int .i64) .wood)) f_2)])], 1⟩ [((t4 : Int) == 9) = true] (by kernel_rfl) ⟨b505_e0, trivial⟩ ?_
        obtain ⟨g506_0, h⟩ := ifS h
        obtain ⟨r506_1, cr506_1, h⟩ := bindS h
        obtain ⟨g506_2, h⟩ := ifS h
        obtain ⟨g506_3, h⟩ := ifS h
        obtain ⟨g506_4, h⟩ := ifS h
        obtain ⟨r506_5, cr506_5, h⟩ := bindS h
        obtain ⟨g506_6, h⟩ := ifS h
        obtain ⟨g506_7, h⟩ := ifS h
        have h := Option.some.inj h
        subst h
        have hk : o = f35_broughamref35_Text_out (((((⟨#[40, 32]⟩ : ByteArray) ++ r506_1) ++ (⟨#[32, 97, 110, 100, 32]⟩ : ByteArray)) ++ r506_5) ++ (⟨#[32, 41]⟩ : ByteArray)) := hk
        subst hk
        exact At.fin hm ht ⟨[(4, .call [] [] (f35_broughamref35_Text_out r506_1)), (11, .call [] [] (f35_broughamref35_Text_out r506_5))], [], [], [2], []⟩ [(0 : Int) ≤ 0 ∧ 0 < (((f_2).length : Nat) : Int), FnOK Tryd.prog 35 (f35_broughamref35_Text_in ((f_2.getD 0 (0, (0, []))).1) (((f_2.getD 0 (0, (0, []))).2).1) ((((f_2.getD 0 (0, (0, []))).2).2).map FT.un)) (f35_broughamref35_Text_out r506_1), (⟨#[40, 32]⟩ : ByteArray).size + r506_1.size ≤ 9223372036854775807, ((⟨#[40, 32]⟩ : ByteArray) ++ r506_1).size + (⟨#[32, 97, 110, 100, 32]⟩ : ByteArray).size ≤ 9223372036854775807, (0 : Int) ≤ 1 ∧ 1 < (((f_2).length : Nat) : Int), FnOK Tryd.prog 35 (f35_broughamref35_Text_in ((f_2.getD 1 (0, (0, []))).1) (((f_2.getD 1 (0, (0, []))).2).1) ((((f_2.getD 1 (0, (0, []))).2).2).map FT.un)) (f35_broughamref35_Text_out r506_5), (((⟨#[40, 32]⟩ : ByteArray) ++ r506_1) ++ (⟨#[32, 97, 110, 100, 32]⟩ : ByteArray)).size + r506_5.size ≤ 9223372036854775807, ((((⟨#[40, 32]⟩ : ByteArray) ++ r506_1) ++ (⟨#[32, 97, 110, 100, 32]⟩ : ByteArray)) ++ r506_5).size + (⟨#[32, 41]⟩ : ByteArray).size ≤ 9223372036854775807] (by kernel_rfl) ⟨g506_0, (hrc_f35_broughamref35_Text ((f_2.getD 0 (0, (0, []))).1) (((f_2.getD 0 (0, (0, []))).2).1) ((((f_2.getD 0 (0, (0, []))).2).2).map FT.un) r506_1 cr506_1), g506_2, g506_3, g506_4, (hrc_f35_broughamref35_Text ((f_2.getD 1 (0, (0, []))).1) (((f_2.getD 1 (0, (0, []))).2).1) ((((f_2.getD 1 (0, (0, []))).2).2).map FT.un) r506_5 cr506_5), g506_6, g506_7, trivial⟩
      · refine At.step hm ht ⟨[], [false], [], [1, 4], [0]⟩ 14 ⟨[(1, oc (.ptr 0 0)), (4, oc (zi t4))], [], [(0, [zi f_0, zi f_1, .d (.sl (.pair (.int .i64) (.pair (.int .i64) .wood)) f_2)])], 1⟩ [((t4 : Int) == 9) = false] (by kernel_rfl) ⟨b505_e0, trivial⟩ ?_
        rcases iteS h with ⟨b507_e0, h⟩ | ⟨b507_e0, h⟩
        · refine At.step hm ht ⟨[], [true], [], [1], [0]⟩ 15 ⟨[(1, oc (.ptr 0 0))], [], [(0, [zi f_0, zi f_1, .d (.sl (.pair (.int .i64) (.pair (.int .i64) .wood)) f_2)])], 1⟩ [((t4 : Int) == 10) = true] (by kernel_rfl) ⟨b507_e0, trivial⟩ ?_
          obtain ⟨g508_0, h⟩ := ifS h
          obtain ⟨r508_1, cr508_1, h⟩ := bindS h
          obtain ⟨g508_2, h⟩ := ifS h
          obtain ⟨g508_3, h⟩ := ifS h
          obtain ⟨g508_4, h⟩ := ifS h
          obtain ⟨r508_5, cr508_5, h⟩ := bindS h
          obtain ⟨g508_6, h⟩ := ifS h
          obtain ⟨g508_7, h⟩ := ifS h
          have h := Option.some.inj h
          subst h
          have hk : o = f35_broughamref35_Text_out (((((⟨#[40, 32]⟩ : ByteArray) ++ r508_1) ++ (⟨#[32, 111, 114, 32]⟩ : ByteArray)) ++ r508_5) ++ (⟨#[32, 41]⟩ : ByteArray)) := hk
          subst hk
          exact At.fin hm ht ⟨[(4, .call [] [] (f35_broughamref35_Text_out r508_1)), (11, .call [] [] (f35_broughamref35_Text_out r508_5))], [], [], [2], []⟩ [(0 : Int) ≤ 0 ∧ 0 < (((f_2).length : Nat) : Int), FnOK Tryd.prog 35 (f35_broughamref35_Text_in ((f_2.getD 0 (0, (0, []))).1) (((f_2.getD 0 (0, (0, []))).2).1) ((((f_2.getD 0 (0, (0, []))).2).2).map FT.un)) (f35_broughamref35_Text_out r508_1), (⟨#[40, 32]⟩ : ByteArray).size + r508_1.size ≤ 9223372036854775807, ((⟨#[40, 32]⟩ : ByteArray) ++ r508_1).size + (⟨#[32, 111, 114, 32]⟩ : ByteArray).size ≤ 9223372036854775807, (0 : Int) ≤ 1 ∧ 1 < (((f_2).length : Nat) : Int), FnOK Tryd.prog 35 (f35_broughamref35_Text_in ((f_2.getD 1 (0, (0, []))).1) (((f_2.getD 1 (0, (0, []))).2).1) ((((f_2.getD 1 (0, (0, []))).2).2).map FT.un)) (f35_broughamref35_Text_out r508_5), (((⟨#[40, 32]⟩ : ByteArray) ++ r508_1) ++ (⟨#[32, 111, 114, 32]⟩ : ByteArray)).size + r508_5.size ≤ 9223372036854775807, ((((⟨#[40, 32]⟩ : ByteArray) ++ r508_1) ++ (⟨#[32, 111, 114, 32]⟩ : ByteArray)) ++ r508_5).size + (⟨#[32, 41]⟩ : ByteArray).size ≤ 9223372036854775807] (by kernel_rfl) ⟨g508_0, (hrc_f35_broughamref35_Text ((f_2.getD 0 (0, (0, []))).1) (((f_2.getD 0 (0, (0, []))).2).1) ((((f_2.getD 0 (0, (0, []))).2).2).map FT.un) r508_1 cr508_1), g508_2, g508_3, g508_4, (hrc_f35_broughamref35_Text ((f_2.getD 1 (0, (0, []))).1) (((f_2.getD 1 (0, (0, []))).2).1) ((((f_2.getD 1 (0, (0, []))).2).2).map FT.un) r508_5 cr508_5), g508_6, g508_7, trivial⟩
        · refine At.step hm ht ⟨[], [false], [], [1], [0]⟩ 16 ⟨[(1, oc (.ptr 0 0))], [], [(0, [zi f_0, zi f_1, .d (.sl (.pair (.int .i64) (.pair (.int .i64) .wood)) f_2)])], 1⟩ [((t4 : Int) == 10) = false] (by kernel_rfl) ⟨b507_e0, trivial⟩ ?_
          obtain ⟨r509_0, cr509_0, h⟩ := bindS h
          have h := Option.some.inj h
          subst h
          have hk : o = f35_broughamref35_Text_out r509_0 := hk
          subst hk
          exact At.fin hm ht ⟨[(2, .call [] [] (f61_broughamref35_word_out r509_0))], [], [], [2], []⟩ [FnOK Tryd.prog 61 (f61_broughamref35_word_in f_0) (f61_broughamref35_word_out r509_0)] (by kernel_rfl) ⟨(f61_broughamref35_word_ok f_0 r509_0 cr509_0), trivial⟩
def f35_broughamref35_Text : Nat → Int → Int → (List (Int × Int × List FT)) → Option (ByteArray)
  | 0, _, _, _ => none
  | n + 1, f_0, f_1, f_2 =>
    if ((f_0 : Int) == 2) = true then
      if (0 : Int) ≤ f_1 ∧ f_1 < ((([(⟨#[]⟩ : ByteArray), (⟨#[115, 121, 110]⟩ : ByteArray), (⟨#[97, 99, 107]⟩ : ByteArray), (⟨#[]⟩ : ByteArray), (⟨#[114, 115, 116]⟩ : ByteArray)]).length : Nat) : Int) then
      some ([(⟨#[]⟩ : ByteArray), (⟨#[115, 121, 110]⟩ : ByteArray), (⟨#[97, 99, 107]⟩ : ByteArray), (⟨#[]⟩ : ByteArray), (⟨#[114, 115, 116]⟩ : ByteArray)].getD f_1.toNat ByteArray.empty)
      else none
    else
      if ((f_0 : Int) == 3) = true then
        if ((f_0 : Int) == 3) = true then
          (f35_broughamref35_Text_L9 (f35_broughamref35_Text n) n f_0 f_1 f_2).bind fun w501 =>
          some w501
        else
          (f35_broughamref35_Text_L10 (f35_broughamref35_Text n) n f_0 f_0 f_1 f_2).bind fun w510 =>
          some w510
      else
        if ((f_0 : Int) == 4) = true then
          if ((f_0 : Int) == 4) = true then
            (f35_broughamref35_Text_L9 (f35_broughamref35_Text n) n f_0 f_1 f_2).bind fun w513 =>
            some w513
          else
            (f35_broughamref35_Text_L10 (f35_broughamref35_Text n) n f_0 f_0 f_1 f_2).bind fun w515 =>
            some w515
        else
          if ((f_0 : Int) == 5) = true then
            if ((f_0 : Int) == 5) = true then
              (f35_broughamref35_Text_L9 (f35_broughamref35_Text n) n f_0 f_1 f_2).bind fun w518 =>
              some w518
            else
              (f35_broughamref35_Text_L10 (f35_broughamref35_Text n) n f_0 f_0 f_1 f_2).bind fun w520 =>
              some w520
          else
            if ((f_0 : Int) == 6) = true then
              if ((f_0 : Int) == 6) = true then
                (f35_broughamref35_Text_L9 (f35_broughamref35_Text n) n f_0 f_1 f_2).bind fun w523 =>
                some w523
              else
                (f35_broughamref35_Text_L10 (f35_broughamref35_Text n) n f_0 f_0 f_1 f_2).bind fun w525 =>
                some w525
            else
              if ((f_0 : Int) == 7) = true then
                (f35_broughamref35_Text_L9 (f35_broughamref35_Text n) n f_0 f_1 f_2).bind fun w528 =>
                some w528
              else
                (f35_broughamref35_Text_L10 (f35_broughamref35_Text n) n f_0 f_0 f_1 f_2).bind fun w530 =>
                some w530
theorem f35_broughamref35_Text_ok (n : Nat) : ∀ (f_0 : Int) (f_1 : Int) (f_2 : List (Int × Int × List FT)) (r : ByteArray) (h : f35_broughamref35_Text n f_0 f_1 f_2 = some r), FnOK Tryd.prog 35 (f35_broughamref35_Text_in f_0 f_1 f_2) (f35_broughamref35_Text_out r) := by
  induction n with
  | zero => intro f_0 f_1 f_2 r h; rw [f35_broughamref35_Text] at h; cases h
  | succ n ih =>
    intro f_0 f_1 f_2 r h
    rw [f35_broughamref35_Text] at h
    refine At.fn (r := 0) Tryd.func35 rfl (by kernel_rfl) rfl rfl (by kernel_rfl) ?_
    show At Tryd.prog Tryd.f35 0 0 ⟨[(0, .one (.agg [zi f_0, zi f_1, .d (.sl (.pair (.int .i64) (.pair (.int .i64) .wood)) f_2)]))], [], [], 0⟩ _
    refine At.step hm ht ⟨[], [], [], [1], [0]⟩ 1 ⟨[(1, oc (.ptr 0 0))], [], [(0, [zi f_0, zi f_1, .d (.sl (.pair (.int .i64) (.pair (.int .i64) .wood)) f_2)])], 1⟩ [] (by kernel_rfl) trivial ?_
    refine At.step hm ht ⟨[], [], [], [1, 4], [0]⟩ 2 ⟨[(1, oc (.ptr 0 0)), (4, oc (zi f_0))], [], [(0, [zi f_0, zi f_1, .d (.sl (.pair (.int .i64) (.pair (.int .i64) .wood)) f_2)])], 1⟩ [] (by kernel_rfl) trivial ?_
    rcases iteS h with ⟨b475_e0, h⟩ | ⟨b475_e0, h⟩
    · refine At.step hm ht ⟨[], [true], [], [1], [0]⟩ 3 ⟨[(1, oc (.ptr 0 0))], [], [(0, [zi f_0, zi f_1, .d (.sl (.pair (.int .i64) (.pair (.int .i64) .wood)) f_2)])], 1⟩ [((f_0 : Int) == 2) = true] (by kernel_rfl) ⟨b475_e0, trivial⟩ ?_
      obtain ⟨g476_0, h⟩ := ifS h
      have h := Option.some.inj h
      subst h
      exact At.fin hm ht ⟨[], [], [], [2], []⟩ [(0 : Int) ≤ f_1 ∧ f_1 < ((([(⟨#[]⟩ : ByteArray), (⟨#[115, 121, 110]⟩ : ByteArray), (⟨#[97, 99, 107]⟩ : ByteArray), (⟨#[]⟩ : ByteArray), (⟨#[114, 115, 116]⟩ : ByteArray)]).length : Nat) : Int)] (by kernel_rfl) ⟨g476_0, trivial⟩
    · refine At.step hm ht ⟨[], [false], [], [1, 4], [0]⟩ 4 ⟨[(1, oc (.ptr 0 0)), (4, oc (zi f_0))], [], [(0, [zi f_0, zi f_1, .d (.sl (.pair (.int .i64) (.pair (.int .i64) .wood)) f_2)])], 1⟩ [((f_0 : Int) == 2) = false] (by kernel_rfl) ⟨b475_e0, trivial⟩ ?_
      rcases iteS h with ⟨b477_e0, h⟩ | ⟨b477_e0, h⟩
      · rcases iteS h with ⟨b477_e1, h⟩ | ⟨b477_e1, h⟩
        · refine At.step hm ht ⟨[], [true, true], [], [1], [0]⟩ 9 ⟨[(1, oc (.ptr 0 0))], [], [(0, [zi f_0, zi f_1, .d (.sl (.pair (.int .i64) (.pair (.int .i64) .wood)) f_2)])], 1⟩ [((f_0 : Int) == 3) = true, ((f_0 : Int) == 3) = true] (by kernel_rfl) ⟨b477_e0, b477_e1, trivial⟩ ?_
          obtain ⟨w501, cw501, h⟩ := bindS h
          refine f35_broughamref35_Text_L9_ok (f35_broughamref35_Text n) ih n f_0 f_1 f_2 w501 cw501 _ ?_
          have h := Option.some.inj h
          subst h
          rfl
        · refine At.step hm ht ⟨[], [true, false], [], [1, 4], [0]⟩ 10 ⟨[(1, oc (.ptr 0 0)), (4, oc (zi f_0))], [], [(0, [zi f_0, zi f_1, .d (.sl (.pair (.int .i64) (.pair (.int .i64) .wood)) f_2)])], 1⟩ [((f_0 : Int) == 3) = true, ((f_0 : Int) == 3) = false] (by kernel_rfl) ⟨b477_e0, b477_e1, trivial⟩ ?_
          obtain ⟨w510, cw510, h⟩ := bindS h
          refine f35_broughamref35_Text_L10_ok (f35_broughamref35_Text n) ih n f_0 f_0 f_1 f_2 w510 cw510 _ ?_
          have h := Option.some.inj h
          subst h
          rfl
      · refine At.step hm ht ⟨[], [false], [], [1, 4], [0]⟩ 5 ⟨[(1, oc (.ptr 0 0)), (4, oc (zi f_0))], [], [(0, [zi f_0, zi f_1, .d (.sl (.pair (.int .i64) (.pair (.int .i64) .wood)) f_2)])], 1⟩ [((f_0 : Int) == 3) = false] (by kernel_rfl) ⟨b477_e0, trivial⟩ ?_
        rcases iteS h with ⟨b512_e0, h⟩ | ⟨b512_e0, h⟩
        · rcases iteS h with ⟨b512_e1, h⟩ | ⟨b512_e1, h⟩
          · refine At.step hm ht ⟨[], [true, true], [], [1], [0]⟩ 9 ⟨[(1, oc (.ptr 0 0))], [], [(0, [zi f_0, zi f_1, .d (.sl (.pair (.int .i64) (.pair (.int .i64) .wood)) f_2)])], 1⟩ [((f_0 : Int) == 4) = true, ((f_0 : Int) == 4) = true] (by kernel_rfl) ⟨b512_e0, b512_e1, trivial⟩ ?_
            obtain ⟨w513, cw513, h⟩ := bindS h
            refine f35_broughamref35_Text_L9_ok (f35_broughamref35_Text n) ih n f_0 f_1 f_2 w513 cw513 _ ?_
            have h := Option.some.inj h
            subst h
            rfl
          · refine At.step hm ht ⟨[], [true, false], [], [1, 4], [0]⟩ 10 ⟨[(1, oc (.ptr 0 0)), (4, oc (zi f_0))], [], [(0, [zi f_0, zi f_1, .d (.sl (.pair (.int .i64) (.pair (.int .i64) .wood)) f_2)])], 1⟩ [((f_0 : Int) == 4) = true, ((f_0 : Int) == 4) = false] (by kernel_rfl) ⟨b512_e0, b512_e1, trivial⟩ ?_
            obtain ⟨w515, cw515, h⟩ := bindS h
            refine f35_broughamref35_Text_L10_ok (f35_broughamref35_Text n) ih n f_0 f_0 f_1 f_2 w515 cw515 _ ?_
            have h := Option.some.inj h
            subst h
            rfl
        · refine At.step hm ht ⟨[], [false], [], [1, 4], [0]⟩ 6 ⟨[(1, oc (.ptr 0 0)), (4, oc (zi f_0))], [], [(0, [zi f_0, zi f_1, .d (.sl (.pair (.int .i64) (.pair (.int .i64) .wood)) f_2)])], 1⟩ [((f_0 : Int) == 4) = false] (by kernel_rfl) ⟨b512_e0, trivial⟩ ?_
          rcases iteS h with ⟨b517_e0, h⟩ | ⟨b517_e0, h⟩
          · rcases iteS h with ⟨b517_e1, h⟩ | ⟨b517_e1, h⟩
            · refine At.step hm ht ⟨[], [true, true], [], [1], [0]⟩ 9 ⟨[(1, oc (.ptr 0 0))], [], [(0, [zi f_0, zi f_1, .d (.sl (.pair (.int .i64) (.pair (.int .i64) .wood)) f_2)])], 1⟩ [((f_0 : Int) == 5) = true, ((f_0 : Int) == 5) = true] (by kernel_rfl) ⟨b517_e0, b517_e1, trivial⟩ ?_
              obtain ⟨w518, cw518, h⟩ := bindS h
              refine f35_broughamref35_Text_L9_ok (f35_broughamref35_Text n) ih n f_0 f_1 f_2 w518 cw518 _ ?_
              have h := Option.some.inj h
              subst h
              rfl
            · refine At.step hm ht ⟨[], [true, false], [], [1, 4], [0]⟩ 10 ⟨[(1, oc (.ptr 0 0)), (4, oc (zi f_0))], [], [(0, [zi f_0, zi f_1, .d (.sl (.pair (.int .i64) (.pair (.int .i64) .wood)) f_2)])], 1⟩ [((f_0 : Int) == 5) = true, ((f_0 : Int) == 5) = false] (by kernel_rfl) ⟨b517_e0, b517_e1, trivial⟩ ?_
              obtain ⟨w520, cw520, h⟩ := bindS h
              refine f35_broughamref35_Text_L10_ok (f35_broughamref35_Text n) ih n f_0 f_0 f_1 f_2 w520 cw520 _ ?_
              have h := Option.some.inj h
              subst h
              rfl
          · refine At.step hm ht ⟨[], [false], [], [1, 4], [0]⟩ 7 ⟨[(1, oc (.ptr 0 0)), (4, oc (zi f_0))], [], [(0, [zi f_0, zi f_1, .d (.sl (.pair (.int .i64) (.pair (.int .i64) .wood)) f_2)])], 1⟩ [((f_0 : Int) == 5) = false] (by kernel_rfl) ⟨b517_e0, trivial⟩ ?_
            rcases iteS h with ⟨b522_e0, h⟩ | ⟨b522_e0, h⟩
            · rcases iteS h with ⟨b522_e1, h⟩ | ⟨b522_e1, h⟩
              · refine At.step hm ht ⟨[], [true, true], [], [1], [0]⟩ 9 ⟨[(1, oc (.ptr 0 0))], [], [(0, [zi f_0, zi f_1, .d (.sl (.pair (.int .i64) (.pair (.int .i64) .wood)) f_2)])], 1⟩ [((f_0 : Int) == 6) = true, ((f_0 : Int) == 6) = true] (by kernel_rfl) ⟨b522_e0, b522_e1, trivial⟩ ?_
                obtain ⟨w523, cw523, h⟩ := bindS h
                refine f35_broughamref35_Text_L9_ok (f35_broughamref35_Text n) ih n f_0 f_1 f_2 w523 cw523 _ ?_
                have h := Option.some.inj h
                subst h
                rfl
              · refine At.step hm ht ⟨[], [true, false], [], [1, 4], [0]⟩ 10 ⟨[(1, oc (.ptr 0 0)), (4, oc (zi f_0))], [], [(0, [zi f_0, zi f_1, .d (.sl (.pair (.int .i64) (.pair (.int .i64) .wood)) f_2)])], 1⟩ [((f_0 : Int) == 6) = true, ((f_0 : Int) == 6) = false] (by kernel_rfl) ⟨b522_e0, b522_e1, trivial⟩ ?_
                obtain ⟨w525, cw525, h⟩ := bindS h
                refine f35_broughamref35_Text_L10_ok (f35_broughamref35_Text n) ih n f_0 f_0 f_1 f_2 w525 cw525 _ ?_
                have h := Option.some.inj h
                subst h
                rfl
            · refine At.step hm ht ⟨[], [false], [], [1, 4], [0]⟩ 8 ⟨[(1, oc (.ptr 0 0)), (4, oc (zi f_0))], [], [(0, [zi f_0, zi f_1, .d (.sl (.pair (.int .i64) (.pair (.int .i64) .wood)) f_2)])], 1⟩ [((f_0 : Int) == 6) = false] (by kernel_rfl) ⟨b522_e0, trivial⟩ ?_
              rcases iteS h with ⟨b527_e0, h⟩ | ⟨b527_e0, h⟩
              · refine At.step hm ht ⟨[], [true], [], [1], [0]⟩ 9 ⟨[(1, oc (.ptr 0 0))], [], [(0, [zi f_0, zi f_1, .d (.sl (.pair (.int .i64) (.pair (.int .i64) .wood)) f_2)])], 1⟩ [((f_0 : Int) == 7) = true] (by kernel_rfl) ⟨b527_e0, trivial⟩ ?_
                obtain ⟨w528, cw528, h⟩ := bindS h
                refine f35_broughamref35_Text_L9_ok (f35_broughamref35_Text n) ih n f_0 f_1 f_2 w528 cw528 _ ?_
                have h := Option.some.inj h
                subst h
                rfl
              · refine At.step hm ht ⟨[], [false], [], [1, 4], [0]⟩ 10 ⟨[(1, oc (.ptr 0 0)), (4, oc (zi f_0))], [], [(0, [zi f_0, zi f_1, .d (.sl (.pair (.int .i64) (.pair (.int .i64) .wood)) f_2)])], 1⟩ [((f_0 : Int) == 7) = false] (by kernel_rfl) ⟨b527_e0, trivial⟩ ?_
                obtain ⟨w530, cw530, h⟩ := bindS h
                refine f35_broughamref35_Text_L10_ok (f35_broughamref35_Text n) ih n f_0 f_0 f_1 f_2 w530 cw530 _ ?_
                have h := Option.some.inj h
                subst h
                rfl
/-! brougham/broughamref07.SameOption -/
def f63_broughamref07_SameOption_in (a_0 : Int) (a_1 : List Int) (b_0 : Int) (b_1 : List Int) : Inn := ⟨[.agg [.d (.int .u8 a_0), .d (.sl (.int .u8) a_1)], .agg [.d (.int .u8 b_0), .d (.sl (.int .u8) b_1)]], [], [], 0⟩
def f63_broughamref07_SameOption_out (r : Bool) : Out := ⟨oc (.d (.bool r)), [], [], 0⟩
def f63_broughamref07_SameOption (a_0 : Int) (a_1 : List Int) (b_0 : Int) (b_1 : List Int) : Option (Bool) :=
  if ((a_0 : Int) == b_0) = true then
    some ((strOfNums a_1).toList == (strOfNums b_1).toList)
  else
    some false
theorem f63_broughamref07_SameOption_ok (a_0 : Int) (a_1 : List Int) (b_0 : Int) (b_1 : List Int) (r : Bool) (h : f63_broughamref07_SameOption a_0 a_1 b_0 b_1 = some r) : FnOK Tryd.prog 63 (f63_broughamref07_SameOption_in a_0 a_1 b_0 b_1) (f63_broughamref07_SameOption_out r) := by
  unfold f63_broughamref07_SameOption at h
  refine At.fn (r := 0) Tryd.func63 rfl (by kernel_rfl) rfl rfl (by kernel_rfl) ?_
  show At Tryd.prog Tryd.f63 0 0 ⟨[(0, .one (.agg [.d (.int .u8 a_0), .d (.sl (.int .u8) a_1)])), (1, .one (.agg [.d (.int .u8 b_0), .d (.sl (.int .u8) b_1)]))], [], [], 0⟩ _
  refine At.step hm ht ⟨[], [], [], [2, 3], [0, 1]⟩ 1 ⟨[(2, oc (.ptr 0 0)), (3, oc (.ptr 1 0))], [], [(0, [.d (.int .u8 a_0), .d (.sl (.int .u8) a_1)]), (1, [.d (.int .u8 b_0), .d (.sl (.int .u8) b_1)])], 2⟩ [] (by kernel_rfl) trivial ?_
  rcases iteS h with ⟨b545_5, h⟩ | ⟨b545_5, h⟩
  · have h := Option.some.inj h
    subst h
    exact At.fin hm ht ⟨[(5, .b true)], [], [], [4], []⟩ [((a_0 : Int) == b_0) = true] (by kernel_rfl) ⟨b545_5, trivial⟩
  · have h := Option.some.inj h
    subst h
    exact At.fin hm ht ⟨[(5, .b false)], [], [], [4], []⟩ [((a_0 : Int) == b_0) = false] (by kernel_rfl) ⟨b545_5, trivial⟩
/-! brougham/broughamref07.Same -/
def f36_broughamref07_Same_in (a_0 : Int) (a_1 : Int) (a_2 : Int) (a_3 : Int) (a_4 : Int) (a_5 : List (Int × List Int)) (a_6 : List Int) (b_0 : Int) (b_1 : Int) (b_2 : Int) (b_3 : Int) (b_4 : Int) (b_5 : List (Int × List Int)) (b_6 : List Int) : Inn := ⟨[.agg [.d (.int .u16 a_0), .d (.int .u16 a_1), .d (.int .u32 a_2), .d (.int .u32 a_3), .d (.int .u8 a_4), .d (.sl (.pair (.int .u8) (.slice (.int .u8))) a_5), .d (.sl (.int .u8) a_6)], .agg [.d (.int .u16 b_0), .d (.int .u16 b_1), .d (.int .u32 b_2), .d (.int .u32 b_3), .d (.int .u8 b_4), .d (.sl (.pair (.int .u8) (.slice (.int .u8))) b_5), .d (.sl (.int .u8) b_6)]], [], [], 0⟩
def f36_broughamref07_Same_out (r : Bool) : Out := ⟨oc (.d (.bool r)), [], [], 0⟩
def f36_broughamref07_Same_L4 : Nat → Int → Int → Int → Int → Int → Int → (List (Int × List Int)) → (List Int) → Int → Int → Int → Int → Int → (List (Int × List Int)) → (List Int) → Option ((Bool) ⊕ (Unit))
  | 0, _, _, _, _, _, _, _, _, _, _, _, _, _, _, _ => none
  | n + 1, i, a_0, a_1, a_2, a_3, a_4, a_5, a_6, b_0, b_1, b_2, b_3, b_4, b_5, b_6 =>
    if (decide ((i : Int) < ((a_5.length : Nat) : Int))) = true then
      if (0 : Int) ≤ i ∧ i < (((a_5).length : Nat) : Int) then
      if (0 : Int) ≤ i ∧ i < (((b_5).length : Nat) : Int) then
      (f63_broughamref07_SameOption ((a_5.getD i.toNat (0, [])).1) ((a_5.getD i.toNat (0, [])).2) ((b_5.getD i.toNat (0, [])).1) ((b_5.getD i.toNat (0, [])).2)).bind fun r543_2 =>
      if (!r543_2) = true then
        some (.inl false)
      else
        f36_broughamref07_Same_L4 n (IntKind.wrap .i64 (i + 1)) a_0 a_1 a_2 a_3 a_4 a_5 a_6 b_0 b_1 b_2 b_3 b_4 b_5 b_6
      else none
      else none
    else
      some (.inr ())
def f36_broughamref07_Same_L4_k (w : (Bool) ⊕ (Unit)) (o : Out) : Prop := match w with
  | .inl e => o = f36_broughamref07_Same_out e
  | .inr e => At Tryd.prog Tryd.f36 0 8 ⟨[], [], [], 0⟩ o
theorem f36_broughamref07_Same_L4_ok (n : Nat) : ∀ (i : Int) (a_0 : Int) (a_1 : Int) (a_2 : Int) (a_3 : Int) (a_4 : Int) (a_5 : List (Int × List Int)) (a_6 : List Int) (b_0 : Int) (b_1 : Int) (b_2 : Int) (b_3 : Int) (b_4 : Int) (b_5 : List (Int × List Int)) (b_6 : List Int) (w : (Bool) ⊕ (Unit)) (h : f36_broughamref07_Same_L4 n i a_0 a_1 a_2 a_3 a_4 a_5 a_6 b_0 b_1 b_2 b_3 b_4 b_5 b_6 = some w) (o : Out) (hk : f36_broughamref07_Same_L4_k w o), At Tryd.prog Tryd.f36 0 4 ⟨[(2, oc (.ptr 0 0)), (3, oc (.ptr 1 0)), (5, oc (zi i))], [], [(0, [.d (.int .u16 a_0), .d (.int .u16 a_1), .d (.int .u32 a_2), .d (.int .u32 a_3), .d (.int .u8 a_4), .d (.sl (.pair (.int .u8) (.slice (.int .u8))) a_5), .d (.sl (.int .u8) a_6)]), (1, [.d (.int .u16 b_0), .d (.int .u16 b_1), .d (.int .u32 b_2), .d (.int .u32 b_3), .d (.int .u8 b_4), .d (.sl (.pair (.int .u8) (.slice (.int .u8))) b_5), .d (.sl (.int .u8) b_6)])], 2⟩ o := by
  induction n with
  | zero => intro i a_0 a_1 a_2 a_3 a_4 a_5 a_6 b_0 b_1 b_2 b_3 b_4 b_5 b_6 w h; rw [f36_broughamref07_Same_L4] at h; cases h
  | succ n ih =>
    intro i a_0 a_1 a_2 a_3 a_4 a_5 a_6 b_0 b_1 b_2 b_3 b_4 b_5 b_6 w h o hk
    rw [f36_broughamref07_Same_L4] at h
    rcases iteS h with ⟨b542_e0, h⟩ | ⟨b542_e0, h⟩
    · refine At.step hm ht ⟨[], [true], [], [2, 3, 5], [0, 1]⟩ 6 ⟨[(2, oc (.ptr 0 0)), (3, oc (.ptr 1 0)), (5, oc (zi i))], [], [(0, [.d (.int .u16 a_0), .d (.int .u16 a_1), .d (.int .u32 a_2), .d (.int .u32 a_3), .d (.int .u8 a_4), .d (.sl (.pair (.int .u8) (.slice (.int .u8))) a_5), .d (.sl (.int .u8) a_6)]), (1, [.d (.int .u16 b_0), .d (.int .u16 b_1), .d (.int .u32 b_2), .d (.int .u32 b_3), .d (.int .u8 b_4), .d (.sl (.pair (.int .u8) (.slice (.int .u8))) b_5), .d (.sl (.int .u8) b_6)])], 2⟩ [(decide ((i : Int) < ((a_5.length : Nat) : Int))) = true] (by kernel_rfl) ⟨b542_e0, trivial⟩ ?_
      obtain ⟨g543_0, h⟩ := ifS h
      obtain ⟨g543_1, h⟩ := ifS h
      obtain ⟨r543_2, cr543_2, h⟩ := bindS h
      rcases iteS h with ⟨b543_e0, h⟩ | ⟨b543_e0, h⟩
      · refine At.step hm ht ⟨[(10, .call [] [] (f63_broughamref07_SameOption_out r543_2))], [true], [], [], []⟩ 7 ⟨[], [], [], 0⟩ [(0 : Int) ≤ i ∧ i < (((a_5).length : Nat) : Int), (0 : Int) ≤ i ∧ i < (((b_5).length : Nat) : Int), FnOK Tryd.prog 63 (f63_broughamref07_SameOption_in ((a_5.getD i.toNat (0, [])).1) ((a_5.getD i.toNat (0, [])).2) ((b_5.getD i.toNat (0, [])).1) ((b_5.getD i.toNat (0, [])).2)) (f63_broughamref07_SameOption_out r543_2), (!r543_2) = true] (by kernel_rfl) ⟨g543_0, g543_1, (f63_broughamref07_SameOption_ok ((a_5.getD i.toNat (0, [])).1) ((a_5.getD i.toNat (0, [])).2) ((b_5.getD i.toNat (0, [])).1) ((b_5.getD i.toNat (0, [])).2) r543_2 cr543_2), b543_e0, trivial⟩ ?_
        have h := Option.some.inj h
        subst h
        have hk : o = f36_broughamref07_Same_out false := hk
        subst hk
        exact At.fin hm ht ⟨[], [], [], [4], []⟩ [] (by kernel_rfl) trivial
      · refine At.step hm ht ⟨[(10, .call [] [] (f63_broughamref07_SameOption_out r543_2))], [false], [], [2, 3, 5], [0, 1]⟩ 5 ⟨[(2, oc (.ptr 0 0)), (3, oc (.ptr 1 0)), (5, oc (zi i))], [], [(0, [.d (.int .u16 a_0), .d (.int .u16 a_1), .d (.int .u32 a_2), .d (.int .u32 a_3), .d (.int .u8 a_4), .d (.sl (.pair (.int .u8) (.slice (.int .u8))) a_5), .d (.sl (.int .u8) a_6)]), (1, [.d (.int .u16 b_0), .d (.int .u16 b_1), .d (.int .u32 b_2), .d (.int .u32 b_3), .d (.int .u8 b_4), .d (.sl (.pair (.int .u8) (.slice (.int .u8))) b_5), .d (.sl (.int .u8) b_6)])], 2⟩ [(0 : Int) ≤ i ∧ i < (((a_5).length : Nat) : Int), (0 : Int) ≤ i ∧ i < (((b_5).length : Nat) : Int), FnOK Tryd.prog 63 (f63_broughamref07_SameOption_in ((a_5.getD i.toNat (0, [])).1) ((a_5.getD i.toNat (0, [])).2) ((b_5.getD i.toNat (0, [])).1) ((b_5.getD i.toNat (0, [])).2)) (f63_broughamref07_SameOption_out r543_2), (!r543_2) = false] (by kernel_rfl) ⟨g543_0, g543_1, (f63_broughamref07_SameOption_ok ((a_5.getD i.toNat (0, [])).1) ((a_5.getD i.toNat (0, [])).2) ((b_5.getD i.toNat (0, [])).1) ((b_5.getD i.toNat (0, [])).2) r543_2 cr543_2), b543_e0, trivial⟩ ?_
        refine At.step hm ht ⟨[], [], [], [2, 3, 5], [0, 1]⟩ 4 ⟨[(2, oc (.ptr 0 0)), (3, oc (.ptr 1 0)), (5, oc (zi (IntKind.wrap .i64 (i + 1))))], [], [(0, [.d (.int .u16 a_0), .d (.int .u16 a_1), .d (.int .u32 a_2), .d (.int .u32 a_3), .d (.int .u8 a_4), .d (.sl (.pair (.int .u8) (.slice (.int .u8))) a_5), .d (.sl (.int .u8) a_6)]), (1, [.d (.int .u16 b_0), .d (.int .u16 b_1), .d (.int .u32 b_2), .d (.int .u32 b_3), .d (.int .u8 b_4), .d (.sl (.pair (.int .u8) (.slice (.int .u8))) b_5), .d (.sl (.int .u8) b_6)])], 2⟩ [] (by kernel_rfl) trivial ?_
        exact ih (IntKind.wrap .i64 (i + 1)) a_0 a_1 a_2 a_3 a_4 a_5 a_6 b_0 b_1 b_2 b_3 b_4 b_5 b_6 w h o hk
    · refine At.step hm ht ⟨[], [false], [], [], []⟩ 8 ⟨[], [], [], 0⟩ [(decide ((i : Int) < ((a_5.length : Nat) : Int))) = false] (by kernel_rfl) ⟨b542_e0, trivial⟩ ?_
      have h := Option.some.inj h
      subst h
      exact hk
def f36_broughamref07_Same (n : Nat) (a_0 : Int) (a_1 : Int) (a_2 : Int) (a_3 : Int) (a_4 : Int) (a_5 : List (Int × List Int)) (a_6 : List Int) (b_0 : Int) (b_1 : Int) (b_2 : Int) (b_3 : Int) (b_4 : Int) (b_5 : List (Int × List Int)) (b_6 : List Int) : Option (Bool) :=
  if ((a_0 : Int) != b_0) = true then
    some false
  else
    if ((a_1 : Int) != b_1) = true then
      some false
    else
      if ((a_2 : Int) != b_2) = true then
        some false
      else
        if ((a_3 : Int) != b_3) = true then
          some false
        else
          if ((a_4 : Int) != b_4) = true then
            some false
          else
            if (!((strOfNums a_6).toList == (strOfNums b_6).toList)) = true then
              some false
            else
              if ((((a_5.length : Nat) : Int) : Int) != ((b_5.length : Nat) : Int)) = true then
                some false
              else
                (f36_broughamref07_Same_L4 n 0 a_0 a_1 a_2 a_3 a_4 a_5 a_6 b_0 b_1 b_2 b_3 b_4 b_5 b_6).bind fun w548 =>
                match w548 with
                | .inl e549 =>
                  some e549
                | .inr e550 =>
                  some true
theorem f36_broughamref07_Same_ok (n : Nat) (a_0 : Int) (a_1 : Int) (a_2 : Int) (a_3 : Int) (a_4 : Int) (a_5 : List (Int × List Int)) (a_6 : List Int) (b_0 : Int) (b_1 : Int) (b_2 : Int) (b_3 : Int) (b_4 : Int) (b_5 : List (Int × List Int)) (b_6 : List Int) (r : Bool) (h : f36_broughamref07_Same n a_0 a_1 a_2 a_3 a_4 a_5 a_6 b_0 b_1 b_2 b_3 b_4 b_5 b_6 = some r) : FnOK Tryd.prog 36 (f36_broughamref07_Same_in a_0 a_1 a_2 a_3 a_4 a_5 a_6 b_0 b_1 b_2 b_3 b_4 b_5 b_6) (f36_broughamref07_Same_out r) := by
  unfold f36_broughamref07_Same at h
  refine At.fn (r := 0) Tryd.func36 rfl (by kernel_rfl) rfl rfl (by kernel_rfl) ?_
  show At Tryd.prog Tryd.f36 0 0 ⟨[(0, .one (.agg [.d (.int .u16 a_0), .d (.int .u16 a_1), .d (.int .u32 a_2), .d (.int .u32 a_3), .d (.int .u8 a_4), .d (.sl (.pair (.int .u8) (.slice (.int .u8))) a_5), .d (.sl (.int .u8) a_6)])), (1, .one (.agg [.d (.int .u16 b_0), .d (.int .u16 b_1), .d (.int .u32 b_2), .d (.int .u32 b_3), .d (.int .u8 b_4), .d (.sl (.pair (.int .u8) (.slice (.int .u8))) b_5), .d (.sl (.int .u8) b_6)]))], [], [], 0⟩ _
  refine At.step hm ht ⟨[], [], [], [2, 3], [0, 1]⟩ 1 ⟨[(2, oc (.ptr 0 0)), (3, oc (.ptr 1 0))], [], [(0, [.d (.int .u16 a_0), .d (.int .u16 a_1), .d (.int .u32 a_2), .d (.int .u32 a_3), .d (.int .u8 a_4), .d (.sl (.pair (.int .u8) (.slice (.int .u8))) a_5), .d (.sl (.int .u8) a_6)]), (1, [.d (.int .u16 b_0), .d (.int .u16 b_1), .d (.int .u32 b_2), .d (.int .u32 b_3), .d (.int .u8 b_4), .d (.sl (.pair (.int .u8) (.slice (.int .u8))) b_5), .d (.sl (.int .u8) b_6)])], 2⟩ [] (by kernel_rfl) trivial ?_
  rcases iteS h with ⟨b533_5, h⟩ | ⟨b533_5, h⟩
  · refine At.step hm ht ⟨[(5, .b true)], [true], [], [], []⟩ 2 ⟨[], [], [], 0⟩ [((a_0 : Int) != b_0) = true, true = true] (by kernel_rfl) ⟨b533_5, rfl, trivial⟩ ?_
    have h := Option.some.inj h
    subst h
    exact At.fin hm ht ⟨[], [], [], [4], []⟩ [] (by kernel_rfl) trivial
  · rcases iteS h with ⟨b533_12, h⟩ | ⟨b533_12, h⟩
    · refine At.step hm ht ⟨[(5, .b false), (12, .b true)], [true], [], [], []⟩ 2 ⟨[], [], [], 0⟩ [((a_0 : Int) != b_0) = false, ((a_1 : Int) != b_1) = true, true = true] (by kernel_rfl) ⟨b533_5, b533_12, rfl, trivial⟩ ?_
      have h := Option.some.inj h
      subst h
      exact At.fin hm ht ⟨[], [], [], [4], []⟩ [] (by kernel_rfl) trivial
    · rcases iteS h with ⟨b533_19, h⟩ | ⟨b533_19, h⟩
      · refine At.step hm ht ⟨[(5, .b false), (12, .b false), (19, .b true)], [true], [], [], []⟩ 2 ⟨[], [], [], 0⟩ [((a_0 : Int) != b_0) = false, ((a_1 : Int) != b_1) = false, ((a_2 : Int) != b_2) = true, true = true] (by kernel_rfl) ⟨b533_5, b533_12, b533_19, rfl, trivial⟩ ?_
        have h := Option.some.inj h
        subst h
        exact At.fin hm ht ⟨[], [], [], [4], []⟩ [] (by kernel_rfl) trivial
      · rcases iteS h with ⟨b533_26, h⟩ | ⟨b533_26, h⟩
        · refine At.step hm ht ⟨[(5, .b false), (12, .b false), (19, .b false), (26, .b true)], [true], [], [], []⟩ 2 ⟨[], [], [], 0⟩ [((a_0 : Int) != b_0) = false, ((a_1 : Int) != b_1) = false, ((a_2 : Int) != b_2) = false, ((a_3 : Int) != b_3) = true, true = true] (by kernel_rfl) ⟨b533_5, b533_12, b533_19, b533_26, rfl, trivial⟩ ?_
          have h := Option.some.inj h
          subst h
          exact At.fin hm ht ⟨[], [], [], [4], []⟩ [] (by kernel_rfl) trivial
        · rcases iteS h with ⟨b533_33, h⟩ | ⟨b533_33, h⟩
          · refine At.step hm ht ⟨[(5, .b false), (12, .b false), (19, .b false), (26, .b false), (33, .b true)], [true], [], [], []⟩ 2 ⟨[], [], [], 0⟩ [((a_0 : Int) != b_0) = false, ((a_1 : Int) != b_1) = false, ((a_2 : Int) != b_2) = false, ((a_3 : Int) != b_3) = false, ((a_4 : Int) != b_4) = true, true = true] (by kernel_rfl) ⟨b533_5, b533_12, b533_19, b533_26, b533_33, rfl, trivial⟩ ?_
            have h := Option.some.inj h
            subst h
            exact At.fin hm ht ⟨[], [], [], [4], []⟩ [] (by kernel_rfl) trivial
          · rcases iteS h with ⟨b533_42, h⟩ | ⟨b533_42, h⟩
            · refine At.step hm ht ⟨[(5, .b false), (12, .b false), (19, .b false), (26, .b false), (33, .b false), (42, .b true)], [true], [], [], []⟩ 2 ⟨[], [], [], 0⟩ [((a_0 : Int) != b_0) = false, ((a_1 : Int) != b_1) = false, ((a_2 : Int) != b_2) = false, ((a_3 : Int) != b_3) = false, ((a_4 : Int) != b_4) = false, (!((strOfNums a_6).toList == (strOfNums b_6).toList)) = true, true = true] (by kernel_rfl) ⟨b533_5, b533_12, b533_19, b533_26, b533_33, b533_42, rfl, trivial⟩ ?_
              have h := Option.some.inj h
              subst h
              exact At.fin hm ht ⟨[], [], [], [4], []⟩ [] (by kernel_rfl) trivial
            · rcases iteS h with ⟨b533_e0, h⟩ | ⟨b533_e0, h⟩
              · refine At.step hm ht ⟨[(5, .b false), (12, .b false), (19, .b false), (26, .b false), (33, .b false), (42, .b false)], [true], [], [], []⟩ 2 ⟨[], [], [], 0⟩ [((a_0 : Int) != b_0) = false, ((a_1 : Int) != b_1) = false, ((a_2 : Int) != b_2) = false, ((a_3 : Int) != b_3) = false, ((a_4 : Int) != b_4) = false, (!((strOfNums a_6).toList == (strOfNums b_6).toList)) = false, ((((a_5.length : Nat) : Int) : Int) != ((b_5.length : Nat) : Int)) = true] (by kernel_rfl) ⟨b533_5, b533_12, b533_19, b533_26, b533_33, b533_42, b533_e0, trivial⟩ ?_
                have h := Option.some.inj h
                subst h
                exact At.fin hm ht ⟨[], [], [], [4], []⟩ [] (by kernel_rfl) trivial
              · refine At.step hm ht ⟨[(5, .b false), (12, .b false), (19, .b false), (26, .b false), (33, .b false), (42, .b false)], [false], [], [2, 3], [0, 1]⟩ 3 ⟨[(2, oc (.ptr 0 0)), (3, oc (.ptr 1 0))], [], [(0, [.d (.int .u16 a_0), .d (.int .u16 a_1), .d (.int .u32 a_2), .d (.int .u32 a_3), .d (.int .u8 a_4), .d (.sl (.pair (.int .u8) (.slice (.int .u8))) a_5), .d (.sl (.int .u8) a_6)]), (1, [.d (.int .u16 b_0), .d (.int .u16 b_1), .d (.int .u32 b_2), .d (.int .u32 b_3), .d (.int .u8 b_4), .d (.sl (.pair (.int .u8) (.slice (.int .u8))) b_5), .d (.sl (.int .u8) b_6)])], 2⟩ [((a_0 : Int) != b_0) = false, ((a_1 : Int) != b_1) = false, ((a_2 : Int) != b_2) = false, ((a_3 : Int) != b_3) = false, ((a_4 : Int) != b_4) = false, (!((strOfNums a_6).toList == (strOfNums b_6).toList)) = false, ((((a_5.length : Nat) : Int) : Int) != ((b_5.length : Nat) : Int)) = false] (by kernel_rfl) ⟨b533_5, b533_12, b533_19, b533_26, b533_33, b533_42, b533_e0, trivial⟩ ?_
                refine At.step hm ht ⟨[], [], [], [2, 3, 5], [0, 1]⟩ 4 ⟨[(2, oc (.ptr 0 0)), (3, oc (.ptr 1 0)), (5, oc (zi 0))], [], [(0, [.d (.int .u16 a_0), .d (.int .u16 a_1), .d (.int .u32 a_2), .d (.int .u32 a_3), .d (.int .u8 a_4), .d (.sl (.pair (.int .u8) (.slice (.int .u8))) a_5), .d (.sl (.int .u8) a_6)]), (1, [.d (.int .u16 b_0), .d (.int .u16 b_1), .d (.int .u32 b_2), .d (.int .u32 b_3), .d (.int .u8 b_4), .d (.sl (.pair (.int .u8) (.slice (.int .u8))) b_5), .d (.sl (.int .u8) b_6)])], 2⟩ [] (by kernel_rfl) trivial ?_
                obtain ⟨w548, cw548, h⟩ := bindS h
                refine f36_broughamref07_Same_L4_ok n 0 a_0 a_1 a_2 a_3 a_4 a_5 a_6 b_0 b_1 b_2 b_3 b_4 b_5 b_6 w548 cw548 _ ?_
                rcases w548 with e549 | e550
                · have h := Option.some.inj h
                  subst h
                  rfl
                · show At Tryd.prog Tryd.f36 0 8 ⟨[], [], [], 0⟩ _
                  have h := Option.some.inj h
                  subst h
                  exact At.fin hm ht ⟨[], [], [], [4], []⟩ [] (by kernel_rfl) trivial
/-! brougham/broughamlaw35.FilterFits -/
def f7_broughamlaw35_FilterFits_in (f_0 : Int) (f_1 : Int) (f_2 : List (Int × Int × List FT)) (s_0 : Int) (s_1 : Int) (s_2 : Int) (s_3 : Int) (s_4 : Int) (s_5 : List (Int × List Int)) (s_6 : List Int) : Inn := ⟨[.agg [zi f_0, zi f_1, .d (.sl (.pair (.int .i64) (.pair (.int .i64) .wood)) f_2)], .agg [.d (.int .u16 s_0), .d (.int .u16 s_1), .d (.int .u32 s_2), .d (.int .u32 s_3), .d (.int .u8 s_4), .d (.sl (.pair (.int .u8) (.slice (.int .u8))) s_5), .d (.sl (.int .u8) s_6)]], [], [], 0⟩
def f7_broughamlaw35_FilterFits_out (r : Bool) : Out := ⟨oc (.d (.bool r)), [], [], 0⟩
def f7_broughamlaw35_FilterFits (n : Nat) (f_0 : Int) (f_1 : Int) (f_2 : List (Int × Int × List FT)) (s_0 : Int) (s_1 : Int) (s_2 : Int) (s_3 : Int) (s_4 : Int) (s_5 : List (Int × List Int)) (s_6 : List Int) : Option (Bool) :=
  (f26_broughamlaw35_great n f_0 f_1 f_2).bind fun r2_0 =>
  if r2_0 = true then
    some true
  else
    (f29_broughamlaw07_Great n s_0 s_1 s_2 s_3 s_4 s_5 s_6).bind fun r2_1 =>
    if r2_1 = true then
      some true
    else
      (f28_broughamlaw35_Made n f_0 f_1 f_2).bind fun r31_0 =>
      (f30_broughamref35_Right n f_0 f_1 f_2).bind fun r51_0 =>
      if (!r51_0) = true then
        (f31_filter_Right n r31_0).bind fun r135_0 =>
        if (!r135_0) = true then
          (f27_filter_Text n r31_0).bind fun r135_1 =>
          if (r135_1.toList == (⟨#[]⟩ : ByteArray).toList) = true then
            (f32_filter_Match n r31_0 s_0 s_1 s_2 s_3 s_4 s_5 s_6).bind fun r135_2 =>
            if (!r135_2) = true then
              (f33_filter_Of n r31_0 [(s_0, (s_1, (s_2, (s_3, (s_4, (s_5, s_6))))))]).bind fun r135_3 =>
              if ((((r135_3.length : Nat) : Int) : Int) == 0) = true then
                (f23_broughamlaw35_alive n).bind fun r135_4 =>
                some r135_4
              else
                some false
            else
              some false
          else
            some false
        else
          some false
      else
        (f34_broughamref35_Fits n f_0 f_1 f_2 s_0 s_1 s_2 s_3 s_4 s_5 s_6).bind fun r439_0 =>
        (f33_filter_Of n r31_0 [(s_0, (s_1, (s_2, (s_3, (s_4, (s_5, s_6)))))), (s_0, (s_1, (s_2, (s_3, (s_4, (s_5, s_6))))))]).bind fun r471_0 =>
        (f31_filter_Right n r31_0).bind fun r472_0 =>
        if r472_0 = true then
          (f27_filter_Text n r31_0).bind fun r472_1 =>
          (f35_broughamref35_Text n f_0 f_1 f_2).bind fun r472_2 =>
          if (r472_1.toList == r472_2.toList) = true then
            (f32_filter_Match n r31_0 s_0 s_1 s_2 s_3 s_4 s_5 s_6).bind fun r472_3 =>
            if (r472_3 == r439_0) = true then
              if (((((r471_0.length : Nat) : Int) : Int) == 2) == r439_0) = true then
                if (!r439_0) = true then
                  (f23_broughamlaw35_alive n).bind fun r472_4 =>
                  some r472_4
                else
                  if (0 : Int) ≤ 0 ∧ 0 < (((r471_0).length : Nat) : Int) then
                  (f36_broughamref07_Same n ((r471_0.getD 0 (0, (0, (0, (0, (0, ([], []))))))).1) (((r471_0.getD 0 (0, (0, (0, (0, (0, ([], []))))))).2).1) ((((r471_0.getD 0 (0, (0, (0, (0, (0, ([], []))))))).2).2).1) (((((r471_0.getD 0 (0, (0, (0, (0, (0, ([], []))))))).2).2).2).1) ((((((r471_0.getD 0 (0, (0, (0, (0, (0, ([], []))))))).2).2).2).2).1) (((((((r471_0.getD 0 (0, (0, (0, (0, (0, ([], []))))))).2).2).2).2).2).1) (((((((r471_0.getD 0 (0, (0, (0, (0, (0, ([], []))))))).2).2).2).2).2).2) s_0 s_1 s_2 s_3 s_4 s_5 s_6).bind fun r472_5 =>
                  if r472_5 = true then
                    (f23_broughamlaw35_alive n).bind fun r472_6 =>
                    some r472_6
                  else
                    some false
                  else none
              else
                some false
            else
              some false
          else
            some false
        else
          some false
theorem f7_broughamlaw35_FilterFits_ok (n : Nat) (f_0 : Int) (f_1 : Int) (f_2 : List (Int × Int × List FT)) (s_0 : Int) (s_1 : Int) (s_2 : Int) (s_3 : Int) (s_4 : Int) (s_5 : List (Int × List Int)) (s_6 : List Int) (r : Bool) (h : f7_broughamlaw35_FilterFits n f_0 f_1 f_2 s_0 s_1 s_2 s_3 s_4 s_5 s_6 = some r) : FnOK Tryd.prog 7 (f7_broughamlaw35_FilterFits_in f_0 f_1 f_2 s_0 s_1 s_2 s_3 s_4 s_5 s_6) (f7_broughamlaw35_FilterFits_out r) := by
  unfold f7_broughamlaw35_FilterFits at h
  refine At.fn (r := 0) Tryd.func7 rfl (by kernel_rfl) rfl rfl (by kernel_rfl) ?_
  show At Tryd.prog Tryd.f7 0 0 ⟨[(0, .one (.agg [zi f_0, zi f_1, .d (.sl (.pair (.int .i64) (.pair (.int .i64) .wood)) f_2)])), (1, .one (.agg [.d (.int .u16 s_0), .d (.int .u16 s_1), .d (.int .u32 s_2), .d (.int .u32 s_3), .d (.int .u8 s_4), .d (.sl (.pair (.int .u8) (.slice (.int .u8))) s_5), .d (.sl (.int .u8) s_6)]))], [], [], 0⟩ _
  refine At.step hm ht ⟨[], [], [], [2, 3], [0, 1]⟩ 1 ⟨[(2, oc (.ptr 0 0)), (3, oc (.ptr 1 0))], [], [(0, [zi f_0, zi f_1, .d (.sl (.pair (.int .i64) (.pair (.int .i64) .wood)) f_2)]), (1, [.d (.int .u16 s_0), .d (.int .u16 s_1), .d (.int .u32 s_2), .d (.int .u32 s_3), .d (.int .u8 s_4), .d (.sl (.pair (.int .u8) (.slice (.int .u8))) s_5), .d (.sl (.int .u8) s_6)])], 2⟩ [] (by kernel_rfl) trivial ?_
  obtain ⟨r2_0, cr2_0, h⟩ := bindS h
  rcases iteS h with ⟨b2_2, h⟩ | ⟨b2_2, h⟩
  · refine At.step hm ht ⟨[(1, .call [] [] (f26_broughamlaw35_great_out r2_0)), (2, .b true)], [true], [], [], []⟩ 2 ⟨[], [], [], 0⟩ [FnOK Tryd.prog 26 (f26_broughamlaw35_great_in f_0 f_1 f_2) (f26_broughamlaw35_great_out r2_0), r2_0 = true, true = true] (by kernel_rfl) ⟨(f26_broughamlaw35_great_ok n f_0 f_1 f_2 r2_0 cr2_0), b2_2, rfl, trivial⟩ ?_
    have h := Option.some.inj h
    subst h
    exact At.fin hm ht ⟨[], [], [], [4], []⟩ [] (by kernel_rfl) trivial
  · obtain ⟨r2_1, cr2_1, h⟩ := bindS h
    rcases iteS h with ⟨b2_e0, h⟩ | ⟨b2_e0, h⟩
    · refine At.step hm ht ⟨[(1, .call [] [] (f26_broughamlaw35_great_out r2_0)), (2, .b false), (4, .call [] [] (f29_broughamlaw07_Great_out r2_1))], [true], [], [], []⟩ 2 ⟨[], [], [], 0⟩ [FnOK Tryd.prog 26 (f26_broughamlaw35_great_in f_0 f_1 f_2) (f26_broughamlaw35_great_out r2_0), r2_0 = false, FnOK Tryd.prog 29 (f29_broughamlaw07_Great_in s_0 s_1 s_2 s_3 s_4 s_5 s_6) (f29_broughamlaw07_Great_out r2_1), r2_1 = true] (by kernel_rfl) ⟨(f26_broughamlaw35_great_ok n f_0 f_1 f_2 r2_0 cr2_0), b2_2, (f29_broughamlaw07_Great_ok n s_0 s_1 s_2 s_3 s_4 s_5 s_6 r2_1 cr2_1), b2_e0, trivial⟩ ?_
      have h := Option.some.inj h
      subst h
      exact At.fin hm ht ⟨[], [], [], [4], []⟩ [] (by kernel_rfl) trivial
    · refine At.step hm ht ⟨[(1, .call [] [] (f26_broughamlaw35_great_out r2_0)), (2, .b false), (4, .call [] [] (f29_broughamlaw07_Great_out r2_1))], [false], [], [2, 3], [0, 1]⟩ 3 ⟨[(2, oc (.ptr 0 0)), (3, oc (.ptr 1 0))], [], [(0, [zi f_0, zi f_1, .d (.sl (.pair (.int .i64) (.pair (.int .i64) .wood)) f_2)]), (1, [.d (.int .u16 s_0), .d (.int .u16 s_1), .d (.int .u32 s_2), .d (.int .u32 s_3), .d (.int .u8 s_4), .d (.sl (.pair (.int .u8) (.slice (.int .u8))) s_5), .d (.sl (.int .u8) s_6)])], 2⟩ [FnOK Tryd.prog 26 (f26_broughamlaw35_great_in f_0 f_1 f_2) (f26_broughamlaw35_great_out r2_0), r2_0 = false, FnOK Tryd.prog 29 (f29_broughamlaw07_Great_in s_0 s_1 s_2 s_3 s_4 s_5 s_6) (f29_broughamlaw07_Great_out r2_1), r2_1 = false] (by kernel_rfl) ⟨(f26_broughamlaw35_great_ok n f_0 f_1 f_2 r2_0 cr2_0), b2_2, (f29_broughamlaw07_Great_ok n s_0 s_1 s_2 s_3 s_4 s_5 s_6 r2_1 cr2_1), b2_e0, trivial⟩ ?_
      obtain ⟨r31_0, cr31_0, h⟩ := bindS h
      refine At.step hm ht ⟨[(1, .call [] [] (f28_broughamlaw35_Made_out r31_0))], [], [], [2, 3, 5], [0, 1]⟩ 4 ⟨[(2, oc (.ptr 0 0)), (3, oc (.ptr 1 0)), (5, oc (.d (.pt r31_0)))], [], [(0, [zi f_0, zi f_1, .d (.sl (.pair (.int .i64) (.pair (.int .i64) .wood)) f_2)]), (1, [.d (.int .u16 s_0), .d (.int .u16 s_1), .d (.int .u32 s_2), .d (.int .u32 s_3), .d (.int .u8 s_4), .d (.sl (.pair (.int .u8) (.slice (.int .u8))) s_5), .d (.sl (.int .u8) s_6)])], 2⟩ [FnOK Tryd.prog 28 (f28_broughamlaw35_Made_in f_0 f_1 f_2) (f28_broughamlaw35_Made_out r31_0)] (by kernel_rfl) ⟨(f28_broughamlaw35_Made_ok n f_0 f_1 f_2 r31_0 cr31_0), trivial⟩ ?_
      obtain ⟨r51_0, cr51_0, h⟩ := bindS h
      rcases iteS h with ⟨b51_e0, h⟩ | ⟨b51_e0, h⟩
      · refine At.step hm ht ⟨[(1, .call [] [] (f30_broughamref35_Right_out r51_0))], [true], [], [3, 5], [1]⟩ 5 ⟨[(3, oc (.ptr 0 0)), (5, oc (.d (.pt r31_0)))], [], [(0, [.d (.int .u16 s_0), .d (.int .u16 s_1), .d (.int .u32 s_2), .d (.int .u32 s_3), .d (.int .u8 s_4), .d (.sl (.pair (.int .u8) (.slice (.int .u8))) s_5), .d (.sl (.int .u8) s_6)])], 1⟩ [FnOK Tryd.prog 30 (f30_broughamref35_Right_in f_0 f_1 f_2) (f30_broughamref35_Right_out r51_0), (!r51_0) = true] (by kernel_rfl) ⟨(f30_broughamref35_Right_ok n f_0 f_1 f_2 r51_0 cr51_0), b51_e0, trivial⟩ ?_
        obtain ⟨r135_0, cr135_0, h⟩ := bindS h
        rcases iteS h with ⟨b135_3, h⟩ | ⟨b135_3, h⟩
        · obtain ⟨r135_1, cr135_1, h⟩ := bindS h
          rcases iteS h with ⟨b135_8, h⟩ | ⟨b135_8, h⟩
          · obtain ⟨r135_2, cr135_2, h⟩ := bindS h
            rcases iteS h with ⟨b135_14, h⟩ | ⟨b135_14, h⟩
            · obtain ⟨r135_3, cr135_3, h⟩ := bindS h
              rcases iteS h with ⟨b135_22, h⟩ | ⟨b135_22, h⟩
              · obtain ⟨r135_4, cr135_4, h⟩ := bindS h
                have h := Option.some.inj h
                subst h
                exact At.fin hm ht ⟨[(1, .call [] [] (f31_filter_Right_out r135_0)), (3, .b true), (5, .call [] [] (f27_filter_Text_out r135_1)), (8, .b true), (11, .call [] [] (f32_filter_Match_out r135_2)), (14, .b true), (18, .call [] [] (f33_filter_Of_out r135_3)), (22, .b true), (23, .call [] [] (f23_broughamlaw35_alive_out r135_4))], [], [], [4], []⟩ [FnOK Tryd.prog 31 (f31_filter_Right_in r31_0) (f31_filter_Right_out r135_0), (!r135_0) = true, FnOK Tryd.prog 27 (f27_filter_Text_in r31_0) (f27_filter_Text_out r135_1), (r135_1.toList == (⟨#[]⟩ : ByteArray).toList) = true, FnOK Tryd.prog 32 (f32_filter_Match_in r31_0 s_0 s_1 s_2 s_3 s_4 s_5 s_6) (f32_filter_Match_out r135_2), (!r135_2) = true, FnOK Tryd.prog 33 (f33_filter_Of_in r31_0 [(s_0, (s_1, (s_2, (s_3, (s_4, (s_5, s_6))))))]) (f33_filter_Of_out r135_3), ((((r135_3.length : Nat) : Int) : Int) == 0) = true, FnOK Tryd.prog 23 (f23_broughamlaw35_alive_in) (f23_broughamlaw35_alive_out r135_4)] (by kernel_rfl) ⟨(f31_filter_Right_ok n r31_0 r135_0 cr135_0), b135_3, (f27_filter_Text_ok n r31_0 r135_1 cr135_1), b135_8, (f32_filter_Match_ok n r31_0 s_0 s_1 s_2 s_3 s_4 s_5 s_6 r135_2 cr135_2), b135_14, (f33_filter_Of_ok n r31_0 [(s_0, (s_1, (s_2, (s_3, (s_4, (s_5, s_6))))))] r135_3 cr135_3), b135_22, (f23_broughamlaw35_alive_ok n r135_4 cr135_4), trivial⟩
              · have h := Option.some.inj h
                subst h
                exact At.fin hm ht ⟨[(1, .call [] [] (f31_filter_Right_out r135_0)), (3, .b true), (5, .call [] [] (f27_filter_Text_out r135_1)), (8, .b true), (11, .call [] [] (f32_filter_Match_out r135_2)), (14, .b true), (18, .call [] [] (f33_filter_Of_out r135_3)), (22, .b false)], [], [], [4], []⟩ [FnOK Tryd.prog 31 (f31_filter_Right_in r31_0) (f31_filter_Right_out r135_0), (!r135_0) = true, FnOK Tryd.prog 27 (f27_filter_Text_in r31_0) (f27_filter_Text_out r135_1), (r135_1.toList == (⟨#[]⟩ : ByteArray).toList) = true, FnOK Tryd.prog 32 (f32_filter_Match_in r31_0 s_0 s_1 s_2 s_3 s_4 s_5 s_6) (f32_filter_Match_out r135_2), (!r135_2) = true, FnOK Tryd.prog 33 (f33_filter_Of_in r31_0 [(s_0, (s_1, (s_2, (s_3, (s_4, (s_5, s_6))))))]) (f33_filter_Of_out r135_3), ((((r135_3.length : Nat) : Int) : Int) == 0) = false] (by kernel_rfl) ⟨(f31_filter_Right_ok n r31_0 r135_0 cr135_0), b135_3, (f27_filter_Text_ok n r31_0 r135_1 cr135_1), b135_8, (f32_filter_Match_ok n r31_0 s_0 s_1 s_2 s_3 s_4 s_5 s_6 r135_2 cr135_2), b135_14, (f33_filter_Of_ok n r31_0 [(s_0, (s_1, (s_2, (s_3, (s_4, (s_5, s_6))))))] r135_3 cr135_3), b135_22, trivial⟩
            · have h := Option.some.inj h
              subst h
              exact At.fin hm ht ⟨[(1, .call [] [] (f31_filter_Right_out r135_0)), (3, .b true), (5, .call [] [] (f27_filter_Text_out r135_1)), (8, .b true), (11, .call [] [] (f32_filter_Match_out r135_2)), (14, .b false)], [], [], [4], []⟩ [FnOK Tryd.prog 31 (f31_filter_Right_in r31_0) (f31_filter_Right_out r135_0), (!r135_0) = true, FnOK Tryd.prog 27 (f27_filter_Text_in r31_0) (f27_filter_Text_out r135_1), (r135_1.toList == (⟨#[]⟩ : ByteArray).toList) = true, FnOK Tryd.prog 32 (f32_filter_Match_in r31_0 s_0 s_1 s_2 s_3 s_4 s_5 s_6) (f32_filter_Match_out r135_2), (!r135_2) = false] (by kernel_rfl) ⟨(f31_filter_Right_ok n r31_0 r135_0 cr135_0), b135_3, (f27_filter_Text_ok n r31_0 r135_1 cr135_1), b135_8, (f32_filter_Match_ok n r31_0 s_0 s_1 s_2 s_3 s_4 s_5 s_6 r135_2 cr135_2), b135_14, trivial⟩
          · have h := Option.some.inj h
            subst h
            exact At.fin hm ht ⟨[(1, .call [] [] (f31_filter_Right_out r135_0)), (3, .b true), (5, .call [] [] (f27_filter_Text_out r135_1)), (8, .b false)], [], [], [4], []⟩ [FnOK Tryd.prog 31 (f31_filter_Right_in r31_0) (f31_filter_Right_out r135_0), (!r135_0) = true, FnOK Tryd.prog 27 (f27_filter_Text_in r31_0) (f27_filter_Text_out r135_1), (r135_1.toList == (⟨#[]⟩ : ByteArray).toList) = false] (by kernel_rfl) ⟨(f31_filter_Right_ok n r31_0 r135_0 cr135_0), b135_3, (f27_filter_Text_ok n r31_0 r135_1 cr135_1), b135_8, trivial⟩
        · have h := Option.some.inj h
          subst h
          exact At.fin hm ht ⟨[(1, .call [] [] (f31_filter_Right_out r135_0)), (3, .b false)], [], [], [4], []⟩ [FnOK Tryd.prog 31 (f31_filter_Right_in r31_0) (f31_filter_Right_out r135_0), (!r135_0) = false] (by kernel_rfl) ⟨(f31_filter_Right_ok n r31_0 r135_0 cr135_0), b135_3, trivial⟩
      · refine At.step hm ht ⟨[(1, .call [] [] (f30_broughamref35_Right_out r51_0))], [false], [], [2, 3, 5], [0, 1]⟩ 6 ⟨[(2, oc (.ptr 0 0)), (3, oc (.ptr 1 0)), (5, oc (.d (.pt r31_0)))], [], [(0, [zi f_0, zi f_1, .d (.sl (.pair (.int .i64) (.pair (.int .i64) .wood)) f_2)]), (1, [.d (.int .u16 s_0), .d (.int .u16 s_1), .d (.int .u32 s_2), .d (.int .u32 s_3), .d (.int .u8 s_4), .d (.sl (.pair (.int .u8) (.slice (.int .u8))) s_5), .d (.sl (.int .u8) s_6)])], 2⟩ [FnOK Tryd.prog 30 (f30_broughamref35_Right_in f_0 f_1 f_2) (f30_broughamref35_Right_out r51_0), (!r51_0) = false] (by kernel_rfl) ⟨(f30_broughamref35_Right_ok n f_0 f_1 f_2 r51_0 cr51_0), b51_e0, trivial⟩ ?_
        obtain ⟨r439_0, cr439_0, h⟩ := bindS h
        refine At.step hm ht ⟨[(2, .call [] [] (f34_broughamref35_Fits_out r439_0))], [], [], [2, 3, 5, 6], [0, 1]⟩ 7 ⟨[(2, oc (.ptr 0 0)), (3, oc (.ptr 1 0)), (5, oc (.d (.pt r31_0))), (6, oc (.d (.bool r439_0)))], [], [(0, [zi f_0, zi f_1, .d (.sl (.pair (.int .i64) (.pair (.int .i64) .wood)) f_2)]), (1, [.d (.int .u16 s_0), .d (.int .u16 s_1), .d (.int .u32 s_2), .d (.int .u32 s_3), .d (.int .u8 s_4), .d (.sl (.pair (.int .u8) (.slice (.int .u8))) s_5), .d (.sl (.int .u8) s_6)])], 2⟩ [FnOK Tryd.prog 34 (f34_broughamref35_Fits_in f_0 f_1 f_2 s_0 s_1 s_2 s_3 s_4 s_5 s_6) (f34_broughamref35_Fits_out r439_0)] (by kernel_rfl) ⟨(f34_broughamref35_Fits_ok n f_0 f_1 f_2 s_0 s_1 s_2 s_3 s_4 s_5 s_6 r439_0 cr439_0), trivial⟩ ?_
        obtain ⟨r471_0, cr471_0, h⟩ := bindS h
        refine At.step hm ht ⟨[(4, .call [] [] (f33_filter_Of_out r471_0))], [], [], [2, 3, 5, 6, 7], [0, 1, 6]⟩ 8 ⟨[(2, oc (.ptr 0 0)), (3, oc (.ptr 1 0)), (5, oc (.d (.pt r31_0))), (6, oc (.d (.bool r439_0))), (7, oc (.own 2 (.pair (.int .u16) (.pair (.int .u16) (.pair (.int .u32) (.pair (.int .u32) (.pair (.int .u8) (.pair (.slice (.pair (.int .u8) (.slice (.int .u8)))) (.slice (.int .u8)))))))) r471_0))], [(2, some ⟨56, 0⟩)], [(0, [zi f_0, zi f_1, .d (.sl (.pair (.int .i64) (.pair (.int .i64) .wood)) f_2)]), (1, [.d (.int .u16 s_0), .d (.int .u16 s_1), .d (.int .u32 s_2), .d (.int .u32 s_3), .d (.int .u8 s_4), .d (.sl (.pair (.int .u8) (.slice (.int .u8))) s_5), .d (.sl (.int .u8) s_6)])], 3⟩ [FnOK Tryd.prog 33 (f33_filter_Of_in r31_0 [(s_0, (s_1, (s_2, (s_3, (s_4, (s_5, s_6)))))), (s_0, (s_1, (s_2, (s_3, (s_4, (s_5, s_6))))))]) (f33_filter_Of_out r471_0)] (by kernel_rfl) ⟨(f33_filter_Of_ok n r31_0 [(s_0, (s_1, (s_2, (s_3, (s_4, (s_5, s_6)))))), (s_0, (s_1, (s_2, (s_3, (s_4, (s_5, s_6))))))] r471_0 cr471_0), trivial⟩ ?_
        obtain ⟨r472_0, cr472_0, h⟩ := bindS h
        rcases iteS h with ⟨b472_2, h⟩ | ⟨b472_2, h⟩
        · obtain ⟨r472_1, cr472_1, h⟩ := bindS h
          obtain ⟨r472_2, cr472_2, h⟩ := bindS h
          rcases iteS h with ⟨b472_9, h⟩ | ⟨b472_9, h⟩
          · obtain ⟨r472_3, cr472_3, h⟩ := bindS h
            rcases iteS h with ⟨b472_16, h⟩ | ⟨b472_16, h⟩
            · rcases iteS h with ⟨b472_23, h⟩ | ⟨b472_23, h⟩
              · rcases iteS h with ⟨b472_26, h⟩ | ⟨b472_26, h⟩
                · obtain ⟨r472_4, cr472_4, h⟩ := bindS h
                  have h := Option.some.inj h
                  subst h
                  exact At.fin hm ht ⟨[(1, .call [] [] (f31_filter_Right_out r472_0)), (2, .b true), (4, .call [] [] (f27_filter_Text_out r472_1)), (6, .call [] [] (f35_broughamref35_Text_out r472_2)), (9, .b true), (12, .call [] [] (f32_filter_Match_out r472_3)), (16, .b true), (23, .b true), (26, .b true), (35, .call [] [] (f23_broughamlaw35_alive_out r472_4))], [], [], [4], []⟩ [FnOK Tryd.prog 31 (f31_filter_Right_in r31_0) (f31_filter_Right_out r472_0), r472_0 = true, FnOK Tryd.prog 27 (f27_filter_Text_in r31_0) (f27_filter_Text_out r472_1), FnOK Tryd.prog 35 (f35_broughamref35_Text_in f_0 f_1 f_2) (f35_broughamref35_Text_out r472_2), (r472_1.toList == r472_2.toList) = true, FnOK Tryd.prog 32 (f32_filter_Match_in r31_0 s_0 s_1 s_2 s_3 s_4 s_5 s_6) (f32_filter_Match_out r472_3), (r472_3 == r439_0) = true, (((((r471_0.length : Nat) : Int) : Int) == 2) == r439_0) = true, (!r439_0) = true, FnOK Tryd.prog 23 (f23_broughamlaw35_alive_in) (f23_broughamlaw35_alive_out r472_4)] (by kernel_rfl) ⟨(f31_filter_Right_ok n r31_0 r472_0 cr472_0), b472_2, (f27_filter_Text_ok n r31_0 r472_1 cr472_1), (f35_broughamref35_Text_ok n f_0 f_1 f_2 r472_2 cr472_2), b472_9, (f32_filter_Match_ok n r31_0 s_0 s_1 s_2 s_3 s_4 s_5 s_6 r472_3 cr472_3), b472_16, b472_23, b472_26, (f23_broughamlaw35_alive_ok n r472_4 cr472_4), trivial⟩
                · obtain ⟨g472_4, h⟩ := ifS h
                  obtain ⟨r472_5, cr472_5, h⟩ := bindS h
                  rcases iteS h with ⟨b472_34, h⟩ | ⟨b472_34, h⟩
                  · obtain ⟨r472_6, cr472_6, h⟩ := bindS h
                    have h := Option.some.inj h
                    subst h
                    exact At.fin hm ht ⟨[(1, .call [] [] (f31_filter_Right_out r472_0)), (2, .b true), (4, .call [] [] (f27_filter_Text_out r472_1)), (6, .call [] [] (f35_broughamref35_Text_out r472_2)), (9, .b true), (12, .call [] [] (f32_filter_Match_out r472_3)), (16, .b true), (23, .b true), (26, .b false), (31, .call [] [] (f36_broughamref07_Same_out r472_5)), (34, .b true), (35, .call [] [] (f23_broughamlaw35_alive_out r472_6))], [], [], [4], []⟩ [FnOK Tryd.prog 31 (f31_filter_Right_in r31_0) (f31_filter_Right_out r472_0), r472_0 = true, FnOK Tryd.prog 27 (f27_filter_Text_in r31_0) (f27_filter_Text_out r472_1), FnOK Tryd.prog 35 (f35_broughamref35_Text_in f_0 f_1 f_2) (f35_broughamref35_Text_out r472_2), (r472_1.toList == r472_2.toList) = true, FnOK Tryd.prog 32 (f32_filter_Match_in r31_0 s_0 s_1 s_2 s_3 s_4 s_5 s_6) (f32_filter_Match_out r472_3), (r472_3 == r439_0) = true, (((((r471_0.length : Nat) : Int) : Int) == 2) == r439_0) = true, (!r439_0) = false, (0 : Int) ≤ 0 ∧ 0 < (((r471_0).length : Nat) : Int), FnOK Tryd.prog 36 (f36_broughamref07_Same_in ((r471_0.getD 0 (0, (0, (0, (0, (0, ([], []))))))).1) (((r471_0.getD 0 (0, (0, (0, (0, (0, ([], []))))))).2).1) ((((r471_0.getD 0 (0, (0, (0, (0, (0, ([], []))))))).2).2).1) (((((r471_0.getD 0 (0, (0, (0, (0, (0, ([], []))))))).2).2).2).1) ((((((r471_0.getD 0 (0, (0, (0, (0, (0, ([], []))))))).2).2).2).2).1) (((((((r471_0.getD 0 (0, (0, (0, (0, (0, ([], []))))))).2).2).2).2).2).1) (((((((r471_0.getD 0 (0, (0, (0, (0, (0, ([], []))))))).2).2).2).2).2).2) s_0 s_1 s_2 s_3 s_4 s_5 s_6) (f36_broughamref07_Same_out r472_5), r472_5 = true, FnOK Tryd.prog 23 (f23_broughamlaw35_alive_in) (f23_broughamlaw35_alive_out r472_6)] (by kernel_rfl) ⟨(f31_filter_Right_ok n r31_0 r472_0 cr472_0), b472_2, (f27_filter_Text_ok n r31_0 r472_1 cr472_1), (f35_broughamref35_Text_ok n f_0 f_1 f_2 r472_2 cr472_2), b472_9, (f32_filter_Match_ok n r31_0 s_0 s_1 s_2 s_3 s_4 s_5 s_6 r472_3 cr472_3), b472_16, b472_23, b472_26, g472_4, (f36_broughamref07_Same_ok n ((r471_0.getD 0 (0, (0, (0, (0, (0, ([], []))))))).1) (((r471_0.getD 0 (0, (0, (0, (0, (0, ([], []))))))).2).1) ((((r471_0.getD 0 (0, (0, (0, (0, (0, ([], []))))))).2).2).1) (((((r471_0.getD 0 (0, (0, (0, (0, (0, ([], []))))))).2).2).2).1) ((((((r471_0.getD 0 (0, (0, (0, (0, (0, ([], []))))))).2).2).2).2).1) (((((((r471_0.getD 0 (0, (0, (0, (0, (0, ([], []))))))).2).2).2).2).2).1) (((((((r471_0.getD 0 (0, (0, (0, (0, (0, ([], []))))))).2).2).2).2).2).2) s_0 s_1 s_2 s_3 s_4 s_5 s_6 r472_5 cr472_5), b472_34, (f23_broughamlaw35_alive_ok n r472_6 cr472_6), trivial⟩
                  · have h := Option.some.inj h
                    subst h
                    exact At.fin hm ht ⟨[(1, .call [] [] (f31_filter_Right_out r472_0)), (2, .b true), (4, .call [] [] (f27_filter_Text_out r472_1)), (6, .call [] [] (f35_broughamref35_Text_out r472_2)), (9, .b true), (12, .call [] [] (f32_filter_Match_out r472_3)), (16, .b true), (23, .b true), (26, .b false), (31, .call [] [] (f36_broughamref07_Same_out r472_5)), (34, .b false)], [], [], [4], []⟩ [FnOK Tryd.prog 31 (f31_filter_Right_in r31_0) (f31_filter_Right_out r472_0), r472_0 = true, FnOK Tryd.prog 27 (f27_filter_Text_in r31_0) (f27_filter_Text_out r472_1), FnOK Tryd.prog 35 (f35_broughamref35_Text_in f_0 f_1 f_2) (f35_broughamref35_Text_out r472_2), (r472_1.toList == r472_2.toList) = true, FnOK Tryd.prog 32 (f32_filter_Match_in r31_0 s_0 s_1 s_2 s_3 s_4 s_5 s_6) (f32_filter_Match_out r472_3), (r472_3 == r439_0) = true, (((((r471_0.length : Nat) : Int) : Int) == 2) == r439_0) = true, (!r439_0) = false, (0 : Int) ≤ 0 ∧ 0 < (((r471_0).length : Nat) : Int), FnOK Tryd.prog 36 (f36_broughamref07_Same_in ((r471_0.getD 0 (0, (0, (0, (0, (0, ([], []))))))).1) (((r471_0.getD 0 (0, (0, (0, (0, (0, ([], []))))))).2).1) ((((r471_0.getD 0 (0, (0, (0, (0, (0, ([], []))))))).2).2).1) (((((r471_0.getD 0 (0, (0, (0, (0, (0, ([], []))))))).2).2).2).1) ((((((r471_0.getD 0 (0, (0, (0, (0, (0, ([], []))))))).2).2).2).2).1) (((((((r471_0.getD 0 (0, (0, (0, (0, (0, ([], []))))))).2).2).2).2).2).1) (((((((r471_0.getD 0 (0, (0, (0, (0, (0, ([], []))))))).2).2).2).2).2).2) s_0 s_1 s_2 s_3 s_4 s_5 s_6) (f36_broughamref07_Same_out r472_5), r472_5 = false] (by kernel_rfl) ⟨(f31_filter_Right_ok n r31_0 r472_0 cr472_0), b472_2, (f27_filter_Text_ok n r31_0 r472_1 cr472_1), (f35_broughamref35_Text_ok n f_0 f_1 f_2 r472_2 cr472_2), b472_9, (f32_filter_Match_ok n r31_0 s_0 s_1 s_2 s_3 s_4 s_5 s_6 r472_3 cr472_3), b472_16, b472_23, b472_26, g472_4, (f36_broughamref07_Same_ok n ((r471_0.getD 0 (0, (0, (0, (0, (0, ([], []))))))).1) (((r471_0.getD 0 (0, (0, (0, (0, (0, ([], []))))))).2).1) ((((r471_0.getD 0 (0, (0, (0, (0, (0, ([], []))))))).2).2).1) (((((r471_0.getD 0 (0, (0, (0, (0, (0, ([], []))))))).2).2).2).1) ((((((r471_0.getD 0 (0, (0, (0, (0, (0, ([], []))))))).2).2).2).2).1) (((((((r471_0.getD 0 (0, (0, (0, (0, (0, ([], []))))))).2).2).2).2).2).1) (((((((r471_0.getD 0 (0, (0, (0, (0, (0, ([], []))))))).2).2).2).2).2).2) s_0 s_1 s_2 s_3 s_4 s_5 s_6 r472_5 cr472_5), b472_34, trivial⟩
              · have h := Option.some.inj h
                subst h
                exact At.fin hm ht ⟨[(1, .call [] [] (f31_filter_Right_out r472_0)), (2, .b true), (4, .call [] [] (f27_filter_Text_out r472_1)), (6, .call [] [] (f35_broughamref35_Text_out r472_2)), (9, .b true), (12, .call [] [] (f32_filter_Match_out r472_3)), (16, .b true), (23, .b false)], [], [], [4], []⟩ [FnOK Tryd.prog 31 (f31_filter_Right_in r31_0) (f31_filter_Right_out r472_0), r472_0 = true, FnOK Tryd.prog 27 (f27_filter_Text_in r31_0) (f27_filter_Text_out r472_1), FnOK Tryd.prog 35 (f35_broughamref35_Text_in f_0 f_1 f_2) (f35_broughamref35_Text_out r472_2), (r472_1.toList == r472_2.toList) = true, FnOK Tryd.prog 32 (f32_filter_Match_in r31_0 s_0 s_1 s_2 s_3 s_4 s_5 s_6) (f32_filter_Match_out r472_3), (r472_3 == r439_0) = true, (((((r471_0.length : Nat) : Int) : Int) == 2) == r439_0) = false] (by kernel_rfl) ⟨(f31_filter_Right_ok n r31_0 r472_0 cr472_0), b472_2, (f27_filter_Text_ok n r31_0 r472_1 cr472_1), (f35_broughamref35_Text_ok n f_0 f_1 f_2 r472_2 cr472_2), b472_9, (f32_filter_Match_ok n r31_0 s_0 s_1 s_2 s_3 s_4 s_5 s_6 r472_3 cr472_3), b472_16, b472_23, trivial⟩
            · have h := Option.some.inj h
              subst h
              exact At.fin hm ht ⟨[(1, .call [] [] (f31_filter_Right_out r472_0)), (2, .b true), (4, .call [] [] (f27_filter_Text_out r472_1)), (6, .call [] [] (f35_broughamref35_Text_out r472_2)), (9, .b true), (12, .call [] [] (f32_filter_Match_out r472_3)), (16, .b false)], [], [], [4], []⟩ [FnOK Tryd.prog 31 (f31_filter_Right_in r31_0) (f31_filter_Right_out r472_0), r472_0 = true, FnOK Tryd.prog 27 (f27_filter_Text_in r31_0) (f27_filter_Text_out r472_1), FnOK Tryd.prog 35 (f35_broughamref35_Text_in f_0 f_1 f_2) (f35_broughamref35_Text_out r472_2), (r472_1.toList == r472_2.toList) = true, FnOK Tryd.prog 32 (f32_filter_Match_in r31_0 s_0 s_1 s_2 s_3 s_4 s_5 s_6) (f32_filter_Match_out r472_3), (r472_3 == r439_0) = false] (by kernel_rfl) ⟨(f31_filter_Right_ok n r31_0 r472_0 cr472_0), b472_2, (f27_filter_Text_ok n r31_0 r472_1 cr472_1), (f35_broughamref35_Text_ok n f_0 f_1 f_2 r472_2 cr472_2), b472_9, (f32_filter_Match_ok n r31_0 s_0 s_1 s_2 s_3 s_4 s_5 s_6 r472_3 cr472_3), b472_16, trivial⟩
          · have h := Option.some.inj h
            subst h
            exact At.fin hm ht ⟨[(1, .call [] [] (f31_filter_Right_out r472_0)), (2, .b true), (4, .call [] [] (f27_filter_Text_out r472_1)), (6, .call [] [] (f35_broughamref35_Text_out r472_2)), (9, .b false)], [], [], [4], []⟩ [FnOK Tryd.prog 31 (f31_filter_Right_in r31_0) (f31_filter_Right_out r472_0), r472_0 = true, FnOK Tryd.prog 27 (f27_filter_Text_in r31_0) (f27_filter_Text_out r472_1), FnOK Tryd.prog 35 (f35_broughamref35_Text_in f_0 f_1 f_2) (f35_broughamref35_Text_out r472_2), (r472_1.toList == r472_2.toList) = false] (by kernel_rfl) ⟨(f31_filter_Right_ok n r31_0 r472_0 cr472_0), b472_2, (f27_filter_Text_ok n r31_0 r472_1 cr472_1), (f35_broughamref35_Text_ok n f_0 f_1 f_2 r472_2 cr472_2), b472_9, trivial⟩
        · have h := Option.some.inj h
          subst h
          exact At.fin hm ht ⟨[(1, .call [] [] (f31_filter_Right_out r472_0)), (2, .b false)], [], [], [4], []⟩ [FnOK Tryd.prog 31 (f31_filter_Right_in r31_0) (f31_filter_Right_out r472_0), r472_0 = false] (by kernel_rfl) ⟨(f31_filter_Right_ok n r31_0 r472_0 cr472_0), b472_2, trivial⟩
end Go.Proofs.YtakamchmiakicaaDoorF35c
