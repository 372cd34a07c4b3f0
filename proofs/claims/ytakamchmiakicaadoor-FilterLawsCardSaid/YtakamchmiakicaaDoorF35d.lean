/- What the functions compute, and that they do: printed by a program of this session (zgen.py), proved by Zed. -/
import Derived.Test.YtakamchmiakicaaDoorF35dx0
namespace Go.Proofs.YtakamchmiakicaaDoorF35d
open Go Zed Go.Proofs.YtakamchmiakicaaDoorLeaf Go.Proofs.YtakamchmiakicaaDoorDfr
set_option maxRecDepth 100000
set_option linter.unusedVariables false
/-! brougham/filter.right -/
def f59_filter_right_v2_in (left : Int) : Inn := ⟨[.c (.d (.nilP)), .c (zi left)], [], [], 0⟩
def f59_filter_right_v2_out (r : Bool) : Out := ⟨oc (.d (.bool r)), [], [], 0⟩
def f59_filter_right_v2 (left : Int) : Option (Bool) :=
  some false
theorem f59_filter_right_v2_ok (left : Int) (r : Bool) (h : f59_filter_right_v2 left = some r) : FnOK Tryd.prog 59 (f59_filter_right_v2_in left) (f59_filter_right_v2_out r) := by
  unfold f59_filter_right_v2 at h
  refine At.fn (r := 0) Tryd.func59 rfl (by kernel_rfl) rfl rfl (by kernel_rfl) ?_
  show At Tryd.prog Tryd.f59 0 0 ⟨[(0, oc (.d (.nilP))), (1, oc (zi left))], [], [], 0⟩ _
  refine At.step hm ht ⟨[], [], [], [0, 1], []⟩ 1 ⟨[(0, oc (.d (.nilP))), (1, oc (zi left))], [], [], 0⟩ [] (by kernel_rfl) trivial ?_
  refine At.step hm ht ⟨[], [true], [.nilpt 5], [], []⟩ 2 ⟨[], [], [], 0⟩ [true = true] (by kernel_rfl) ⟨rfl, trivial⟩ ?_
  have h := Option.some.inj h
  subst h
  exact At.fin hm ht ⟨[], [], [], [4], []⟩ [] (by kernel_rfl) trivial
/-! brougham/filter.Right -/
def f31_filter_Right_v2_in : Inn := ⟨[.c (.d (.nilP))], [], [], 0⟩
def f31_filter_Right_v2_out (r : Bool) : Out := ⟨oc (.d (.bool r)), [], [], 0⟩
def f31_filter_Right_v2 : Option (Bool) :=
  (f59_filter_right_v2 16).bind fun r471_0 =>
  some r471_0
theorem f31_filter_Right_v2_ok (r : Bool) (h : f31_filter_Right_v2 = some r) : FnOK Tryd.prog 31 (f31_filter_Right_v2_in) (f31_filter_Right_v2_out r) := by
  unfold f31_filter_Right_v2 at h
  refine At.fn (r := 0) Tryd.func31 rfl (by kernel_rfl) rfl rfl (by kernel_rfl) ?_
  show At Tryd.prog Tryd.f31 0 0 ⟨[(0, oc (.d (.nilP)))], [], [], 0⟩ _
  refine At.step hm ht ⟨[], [], [], [0], []⟩ 1 ⟨[(0, oc (.d (.nilP)))], [], [], 0⟩ [] (by kernel_rfl) trivial ?_
  obtain ⟨r471_0, cr471_0, h⟩ := bindS h
  have h := Option.some.inj h
  subst h
  exact At.fin hm ht ⟨[(1, .call [] [] (f59_filter_right_v2_out r471_0))], [], [.nilpt 3], [2], []⟩ [FnOK Tryd.prog 59 (f59_filter_right_v2_in 16) (f59_filter_right_v2_out r471_0)] (by kernel_rfl) ⟨(f59_filter_right_v2_ok 16 r471_0 cr471_0), trivial⟩
/-! brougham/broughamlaw35.alive -/
def f23_broughamlaw35_alive_in : Inn := ⟨[], [], [], 0⟩
def f23_broughamlaw35_alive_out (r : Bool) : Out := ⟨oc (.d (.bool r)), [], [], 0⟩
def f23_broughamlaw35_alive (n : Nat) : Option (Bool) :=
  (f21_filter_Parse n (⟨#[112, 111, 114, 116, 32, 56, 48, 32, 97, 110, 100, 32, 110, 111, 116, 32, 114, 115, 116]⟩ : ByteArray)).bind fun r271_0 =>
  if r271_0.2 = true then
    (f27_filter_Text n r271_0.1).bind fun r435_0 =>
    if (r435_0.toList == (⟨#[40, 32, 112, 111, 114, 116, 32, 56, 48, 32, 97, 110, 100, 32, 40, 32, 110, 111, 116, 32, 114, 115, 116, 32, 41, 32, 41]⟩ : ByteArray).toList) = true then
      (f32_filter_Match n r271_0.1 80 0 0 0 0 [] []).bind fun r435_1 =>
      if r435_1 = true then
        (f32_filter_Match n r271_0.1 80 0 0 0 4 [] []).bind fun r435_2 =>
        if (!r435_2) = true then
          (f31_filter_Right_v2).bind fun r435_3 =>
          some (!r435_3)
        else
          some false
      else
        some false
    else
      some false
  else
    some false
theorem f23_broughamlaw35_alive_ok (n : Nat) (r : Bool) (h : f23_broughamlaw35_alive n = some r) : FnOK Tryd.prog 23 (f23_broughamlaw35_alive_in) (f23_broughamlaw35_alive_out r) := by
  unfold f23_broughamlaw35_alive at h
  refine At.fn (r := 0) Tryd.func23 rfl (by kernel_rfl) rfl rfl (by kernel_rfl) ?_
  show At Tryd.prog Tryd.f23 0 0 ⟨[], [], [], 0⟩ _
  refine At.step hm ht ⟨[], [], [], [], []⟩ 1 ⟨[], [], [], 0⟩ [] (by kernel_rfl) trivial ?_
  obtain ⟨r271_0, cr271_0, h⟩ := bindS h
  refine At.step hm ht ⟨[(0, .call [] [] (f21_filter_Parse_out r271_0))], [], [], [1, 2], []⟩ 2 ⟨[(1, oc (.d (.pt r271_0.1))), (2, oc (.d (.bool r271_0.2)))], [], [], 0⟩ [FnOK Tryd.prog 21 (f21_filter_Parse_in (⟨#[112, 111, 114, 116, 32, 56, 48, 32, 97, 110, 100, 32, 110, 111, 116, 32, 114, 115, 116]⟩ : ByteArray)) (f21_filter_Parse_out r271_0)] (by kernel_rfl) ⟨(f21_filter_Parse_ok n (⟨#[112, 111, 114, 116, 32, 56, 48, 32, 97, 110, 100, 32, 110, 111, 116, 32, 114, 115, 116]⟩ : ByteArray) r271_0 cr271_0), trivial⟩ ?_
  rcases iteS h with ⟨b435_1, h⟩ | ⟨b435_1, h⟩
  · obtain ⟨r435_0, cr435_0, h⟩ := bindS h
    rcases iteS h with ⟨b435_6, h⟩ | ⟨b435_6, h⟩
    · obtain ⟨r435_1, cr435_1, h⟩ := bindS h
      rcases iteS h with ⟨b435_11, h⟩ | ⟨b435_11, h⟩
      · obtain ⟨r435_2, cr435_2, h⟩ := bindS h
        rcases iteS h with ⟨b435_17, h⟩ | ⟨b435_17, h⟩
        · obtain ⟨r435_3, cr435_3, h⟩ := bindS h
          have h := Option.some.inj h
          subst h
          exact At.fin hm ht ⟨[(1, .b true), (3, .call [] [] (f27_filter_Text_out r435_0)), (6, .b true), (9, .call [] [(1, 5, (.pair (.int .u8) (.slice (.int .u8)))), (1, 6, (.int .u8))] (f32_filter_Match_out r435_1)), (11, .b true), (14, .call [] [(1, 5, (.pair (.int .u8) (.slice (.int .u8)))), (1, 6, (.int .u8))] (f32_filter_Match_out r435_2)), (17, .b true), (18, .call [] [] (f31_filter_Right_v2_out r435_3))], [], [], [0], []⟩ [r271_0.2 = true, FnOK Tryd.prog 27 (f27_filter_Text_in r271_0.1) (f27_filter_Text_out r435_0), (r435_0.toList == (⟨#[40, 32, 112, 111, 114, 116, 32, 56, 48, 32, 97, 110, 100, 32, 40, 32, 110, 111, 116, 32, 114, 115, 116, 32, 41, 32, 41]⟩ : ByteArray).toList) = true, FnOK Tryd.prog 32 (f32_filter_Match_in r271_0.1 80 0 0 0 0 [] []) (f32_filter_Match_out r435_1), r435_1 = true, FnOK Tryd.prog 32 (f32_filter_Match_in r271_0.1 80 0 0 0 4 [] []) (f32_filter_Match_out r435_2), (!r435_2) = true, FnOK Tryd.prog 31 (f31_filter_Right_v2_in) (f31_filter_Right_v2_out r435_3)] (by kernel_rfl) ⟨b435_1, (f27_filter_Text_ok n r271_0.1 r435_0 cr435_0), b435_6, (f32_filter_Match_ok n r271_0.1 80 0 0 0 0 [] [] r435_1 cr435_1), b435_11, (f32_filter_Match_ok n r271_0.1 80 0 0 0 4 [] [] r435_2 cr435_2), b435_17, (f31_filter_Right_v2_ok r435_3 cr435_3), trivial⟩
        · have h := Option.some.inj h
          subst h
          exact At.fin hm ht ⟨[(1, .b true), (3, .call [] [] (f27_filter_Text_out r435_0)), (6, .b true), (9, .call [] [(1, 5, (.pair (.int .u8) (.slice (.int .u8)))), (1, 6, (.int .u8))] (f32_filter_Match_out r435_1)), (11, .b true), (14, .call [] [(1, 5, (.pair (.int .u8) (.slice (.int .u8)))), (1, 6, (.int .u8))] (f32_filter_Match_out r435_2)), (17, .b false)], [], [], [0], []⟩ [r271_0.2 = true, FnOK Tryd.prog 27 (f27_filter_Text_in r271_0.1) (f27_filter_Text_out r435_0), (r435_0.toList == (⟨#[40, 32, 112, 111, 114, 116, 32, 56, 48, 32, 97, 110, 100, 32, 40, 32, 110, 111, 116, 32, 114, 115, 116, 32, 41, 32, 41]⟩ : ByteArray).toList) = true, FnOK Tryd.prog 32 (f32_filter_Match_in r271_0.1 80 0 0 0 0 [] []) (f32_filter_Match_out r435_1), r435_1 = true, FnOK Tryd.prog 32 (f32_filter_Match_in r271_0.1 80 0 0 0 4 [] []) (f32_filter_Match_out r435_2), (!r435_2) = false] (by kernel_rfl) ⟨b435_1, (f27_filter_Text_ok n r271_0.1 r435_0 cr435_0), b435_6, (f32_filter_Match_ok n r271_0.1 80 0 0 0 0 [] [] r435_1 cr435_1), b435_11, (f32_filter_Match_ok n r271_0.1 80 0 0 0 4 [] [] r435_2 cr435_2), b435_17, trivial⟩
      · have h := Option.some.inj h
        subst h
        exact At.fin hm ht ⟨[(1, .b true), (3, .call [] [] (f27_filter_Text_out r435_0)), (6, .b true), (9, .call [] [(1, 5, (.pair (.int .u8) (.slice (.int .u8)))), (1, 6, (.int .u8))] (f32_filter_Match_out r435_1)), (11, .b false)], [], [], [0], []⟩ [r271_0.2 = true, FnOK Tryd.prog 27 (f27_filter_Text_in r271_0.1) (f27_filter_Text_out r435_0), (r435_0.toList == (⟨#[40, 32, 112, 111, 114, 116, 32, 56, 48, 32, 97, 110, 100, 32, 40, 32, 110, 111, 116, 32, 114, 115, 116, 32, 41, 32, 41]⟩ : ByteArray).toList) = true, FnOK Tryd.prog 32 (f32_filter_Match_in r271_0.1 80 0 0 0 0 [] []) (f32_filter_Match_out r435_1), r435_1 = false] (by kernel_rfl) ⟨b435_1, (f27_filter_Text_ok n r271_0.1 r435_0 cr435_0), b435_6, (f32_filter_Match_ok n r271_0.1 80 0 0 0 0 [] [] r435_1 cr435_1), b435_11, trivial⟩
    · have h := Option.some.inj h
      subst h
      exact At.fin hm ht ⟨[(1, .b true), (3, .call [] [] (f27_filter_Text_out r435_0)), (6, .b false)], [], [], [0], []⟩ [r271_0.2 = true, FnOK Tryd.prog 27 (f27_filter_Text_in r271_0.1) (f27_filter_Text_out r435_0), (r435_0.toList == (⟨#[40, 32, 112, 111, 114, 116, 32, 56, 48, 32, 97, 110, 100, 32, 40, 32, 110, 111, 116, 32, 114, 115, 116, 32, 41, 32, 41]⟩ : ByteArray).toList) = false] (by kernel_rfl) ⟨b435_1, (f27_filter_Text_ok n r271_0.1 r435_0 cr435_0), b435_6, trivial⟩
  · have h := Option.some.inj h
    subst h
    exact At.fin hm ht ⟨[(1, .b false)], [], [], [0], []⟩ [r271_0.2 = false] (by kernel_rfl) ⟨b435_1, trivial⟩
/-! brougham/broughamlaw35.FilterLaws -/
def f8_broughamlaw35_FilterLaws_in (f_0 : Int) (f_1 : Int) (f_2 : List (Int × Int × List FT)) (g_0 : Int) (g_1 : Int) (g_2 : List (Int × Int × List FT)) (s_0 : Int) (s_1 : Int) (s_2 : Int) (s_3 : Int) (s_4 : Int) (s_5 : List (Int × List Int)) (s_6 : List Int) : Inn := ⟨[.agg [zi f_0, zi f_1, .d (.sl (.pair (.int .i64) (.pair (.int .i64) .wood)) f_2)], .agg [zi g_0, zi g_1, .d (.sl (.pair (.int .i64) (.pair (.int .i64) .wood)) g_2)], .agg [.d (.int .u16 s_0), .d (.int .u16 s_1), .d (.int .u32 s_2), .d (.int .u32 s_3), .d (.int .u8 s_4), .d (.sl (.pair (.int .u8) (.slice (.int .u8))) s_5), .d (.sl (.int .u8) s_6)]], [], [], 0⟩
def f8_broughamlaw35_FilterLaws_out (r : Bool) : Out := ⟨oc (.d (.bool r)), [], [], 0⟩
def f8_broughamlaw35_FilterLaws (n : Nat) (f_0 : Int) (f_1 : Int) (f_2 : List (Int × Int × List FT)) (g_0 : Int) (g_1 : Int) (g_2 : List (Int × Int × List FT)) (s_0 : Int) (s_1 : Int) (s_2 : Int) (s_3 : Int) (s_4 : Int) (s_5 : List (Int × List Int)) (s_6 : List Int) : Option (Bool) :=
  (f37_broughamlaw35_parts n f_0 f_1 f_2 100).bind fun r2_0 =>
  if (decide ((r2_0 : Int) > 100)) = true then
    some true
  else
    (f37_broughamlaw35_parts n g_0 g_1 g_2 100).bind fun r2_1 =>
    if (decide ((r2_1 : Int) > 100)) = true then
      some true
    else
      (f30_broughamref35_Right n f_0 f_1 f_2).bind fun r2_2 =>
      if (!r2_2) = true then
        some true
      else
        (f30_broughamref35_Right n g_0 g_1 g_2).bind fun r2_3 =>
        if (!r2_3) = true then
          some true
        else
          (f29_broughamlaw07_Great n s_0 s_1 s_2 s_3 s_4 s_5 s_6).bind fun r2_4 =>
          if r2_4 = true then
            some true
          else
            (f28_broughamlaw35_Made n f_0 f_1 f_2).bind fun r115_0 =>
            (f28_broughamlaw35_Made n g_0 g_1 g_2).bind fun r115_1 =>
            (f32_filter_Match n r115_0 s_0 s_1 s_2 s_3 s_4 s_5 s_6).bind fun r135_0 =>
            (f32_filter_Match n r115_1 s_0 s_1 s_2 s_3 s_4 s_5 s_6).bind fun r135_1 =>
            (f38_filter_Both n [r115_0, r115_1]).bind fun r216_0 =>
            (f31_filter_Right n (PT.node 8 0 r115_0 PT.nil)).bind fun r229_0 =>
            if (!r229_0) = true then
              (f38_filter_Both n []).bind fun r230_0 =>
              (f25_broughamlaw35_Plain n r230_0 20).bind fun r230_1 =>
              (f24_broughamref35_Same n r230_1.1 r230_1.2.1 r230_1.2.2 1 0 []).bind fun r230_2 =>
              if r230_2 = true then
                (f23_broughamlaw35_alive n).bind fun r230_3 =>
                some r230_3
              else
                some false
            else
              (f31_filter_Right n (PT.node 10 0 r115_0 r115_1)).bind fun r229_1 =>
              if (!r229_1) = true then
                (f38_filter_Both n []).bind fun r475_0 =>
                (f25_broughamlaw35_Plain n r475_0 20).bind fun r475_1 =>
                (f24_broughamref35_Same n r475_1.1 r475_1.2.1 r475_1.2.2 1 0 []).bind fun r475_2 =>
                if r475_2 = true then
                  (f23_broughamlaw35_alive n).bind fun r475_3 =>
                  some r475_3
                else
                  some false
              else
                (f32_filter_Match n (PT.node 8 0 r115_0 PT.nil) s_0 s_1 s_2 s_3 s_4 s_5 s_6).bind fun r476_0 =>
                if (r476_0 == (!r135_0)) = true then
                  (f32_filter_Match n (PT.node 10 0 r115_0 r115_1) s_0 s_1 s_2 s_3 s_4 s_5 s_6).bind fun r476_1 =>
                  if r135_0 = true then
                    if (r476_1 == true) = true then
                      (f32_filter_Match n r216_0 s_0 s_1 s_2 s_3 s_4 s_5 s_6).bind fun r476_2 =>
                      if r135_0 = true then
                        if (r476_2 == r135_1) = true then
                          (f38_filter_Both n [r115_0]).bind fun r476_3 =>
                          (f25_broughamlaw35_Plain n r476_3 20).bind fun r476_4 =>
                          (f24_broughamref35_Same n r476_4.1 r476_4.2.1 r476_4.2.2 f_0 f_1 f_2).bind fun r476_5 =>
                          if r476_5 = true then
                            (f38_filter_Both n []).bind fun r476_6 =>
                            (f32_filter_Match n r476_6 s_0 s_1 s_2 s_3 s_4 s_5 s_6).bind fun r476_7 =>
                            if r476_7 = true then
                              (f23_broughamlaw35_alive n).bind fun r476_8 =>
                              some r476_8
                            else
                              some false
                          else
                            some false
                        else
                          some false
                      else
                        if (r476_2 == false) = true then
                          (f38_filter_Both n [r115_0]).bind fun r476_3 =>
                          (f25_broughamlaw35_Plain n r476_3 20).bind fun r476_4 =>
                          (f24_broughamref35_Same n r476_4.1 r476_4.2.1 r476_4.2.2 f_0 f_1 f_2).bind fun r476_5 =>
                          if r476_5 = true then
                            (f38_filter_Both n []).bind fun r476_6 =>
                            (f32_filter_Match n r476_6 s_0 s_1 s_2 s_3 s_4 s_5 s_6).bind fun r476_7 =>
                            if r476_7 = true then
                              (f23_broughamlaw35_alive n).bind fun r476_8 =>
                              some r476_8
                            else
                              some false
                          else
                            some false
                        else
                          some false
                    else
                      some false
                  else
                    if (r476_1 == r135_1) = true then
                      (f32_filter_Match n r216_0 s_0 s_1 s_2 s_3 s_4 s_5 s_6).bind fun r476_2 =>
                      if r135_0 = true then
                        if (r476_2 == r135_1) = true then
                          (f38_filter_Both n [r115_0]).bind fun r476_3 =>
                          (f25_broughamlaw35_Plain n r476_3 20).bind fun r476_4 =>
                          (f24_broughamref35_Same n r476_4.1 r476_4.2.1 r476_4.2.2 f_0 f_1 f_2).bind fun r476_5 =>
                          if r476_5 = true then
                            (f38_filter_Both n []).bind fun r476_6 =>
                            (f32_filter_Match n r476_6 s_0 s_1 s_2 s_3 s_4 s_5 s_6).bind fun r476_7 =>
                            if r476_7 = true then
                              (f23_broughamlaw35_alive n).bind fun r476_8 =>
                              some r476_8
                            else
                              some false
                          else
                            some false
                        else
                          some false
                      else
                        if (r476_2 == false) = true then
                          (f38_filter_Both n [r115_0]).bind fun r476_3 =>
                          (f25_broughamlaw35_Plain n r476_3 20).bind fun r476_4 =>
                          (f24_broughamref35_Same n r476_4.1 r476_4.2.1 r476_4.2.2 f_0 f_1 f_2).bind fun r476_5 =>
                          if r476_5 = true then
                            (f38_filter_Both n []).bind fun r476_6 =>
                            (f32_filter_Match n r476_6 s_0 s_1 s_2 s_3 s_4 s_5 s_6).bind fun r476_7 =>
                            if r476_7 = true then
                              (f23_broughamlaw35_alive n).bind fun r476_8 =>
                              some r476_8
                            else
                              some false
                          else
                            some false
                        else
                          some false
                    else
                      some false
                else
                  some false
theorem f8_broughamlaw35_FilterLaws_ok (n : Nat) (f_0 : Int) (f_1 : Int) (f_2 : List (Int × Int × List FT)) (g_0 : Int) (g_1 : Int) (g_2 : List (Int × Int × List FT)) (s_0 : Int) (s_1 : Int) (s_2 : Int) (s_3 : Int) (s_4 : Int) (s_5 : List (Int × List Int)) (s_6 : List Int) (r : Bool) (h : f8_broughamlaw35_FilterLaws n f_0 f_1 f_2 g_0 g_1 g_2 s_0 s_1 s_2 s_3 s_4 s_5 s_6 = some r) : FnOK Tryd.prog 8 (f8_broughamlaw35_FilterLaws_in f_0 f_1 f_2 g_0 g_1 g_2 s_0 s_1 s_2 s_3 s_4 s_5 s_6) (f8_broughamlaw35_FilterLaws_out r) := by
  unfold f8_broughamlaw35_FilterLaws at h
  refine At.fn (r := 0) Tryd.func8 rfl (by kernel_rfl) rfl rfl (by kernel_rfl) ?_
  show At Tryd.prog Tryd.f8 0 0 ⟨[(0, .one (.agg [zi f_0, zi f_1, .d (.sl (.pair (.int .i64) (.pair (.int .i64) .wood)) f_2)])), (1, .one (.agg [zi g_0, zi g_1, .d (.sl (.pair (.int .i64) (.pair (.int .i64) .wood)) g_2)])), (2, .one (.agg [.d (.int .u16 s_0), .d (.int .u16 s_1), .d (.int .u32 s_2), .d (.int .u32 s_3), .d (.int .u8 s_4), .d (.sl (.pair (.int .u8) (.slice (.int .u8))) s_5), .d (.sl (.int .u8) s_6)]))], [], [], 0⟩ _
  refine At.step hm ht ⟨[], [], [], [3, 4, 5], [0, 1, 2]⟩ 1 ⟨[(3, oc (.ptr 0 0)), (4, oc (.ptr 1 0)), (5, oc (.ptr 2 0))], [], [(0, [zi f_0, zi f_1, .d (.sl (.pair (.int .i64) (.pair (.int .i64) .wood)) f_2)]), (1, [zi g_0, zi g_1, .d (.sl (.pair (.int .i64) (.pair (.int .i64) .wood)) g_2)]), (2, [.d (.int .u16 s_0), .d (.int .u16 s_1), .d (.int .u32 s_2), .d (.int .u32 s_3), .d (.int .u8 s_4), .d (.sl (.pair (.int .u8) (.slice (.int .u8))) s_5), .d (.sl (.int .u8) s_6)])], 3⟩ [] (by kernel_rfl) trivial ?_
  obtain ⟨r2_0, cr2_0, h⟩ := bindS h
  rcases iteS h with ⟨b2_3, h⟩ | ⟨b2_3, h⟩
  · refine At.step hm ht ⟨[(1, .call [] [] (f37_broughamlaw35_parts_out r2_0)), (3, .b true)], [true], [], [], []⟩ 2 ⟨[], [], [], 0⟩ [FnOK Tryd.prog 37 (f37_broughamlaw35_parts_in f_0 f_1 f_2 100) (f37_broughamlaw35_parts_out r2_0), (decide ((r2_0 : Int) > 100)) = true, true = true] (by kernel_rfl) ⟨(f37_broughamlaw35_parts_ok n f_0 f_1 f_2 100 r2_0 cr2_0), b2_3, rfl, trivial⟩ ?_
    have h := Option.some.inj h
    subst h
    exact At.fin hm ht ⟨[], [], [], [6], []⟩ [] (by kernel_rfl) trivial
  · obtain ⟨r2_1, cr2_1, h⟩ := bindS h
    rcases iteS h with ⟨b2_8, h⟩ | ⟨b2_8, h⟩
    · refine At.step hm ht ⟨[(1, .call [] [] (f37_broughamlaw35_parts_out r2_0)), (3, .b false), (5, .call [] [] (f37_broughamlaw35_parts_out r2_1)), (8, .b true)], [true], [], [], []⟩ 2 ⟨[], [], [], 0⟩ [FnOK Tryd.prog 37 (f37_broughamlaw35_parts_in f_0 f_1 f_2 100) (f37_broughamlaw35_parts_out r2_0), (decide ((r2_0 : Int) > 100)) = false, FnOK Tryd.prog 37 (f37_broughamlaw35_parts_in g_0 g_1 g_2 100) (f37_broughamlaw35_parts_out r2_1), (decide ((r2_1 : Int) > 100)) = true, true = true] (by kernel_rfl) ⟨(f37_broughamlaw35_parts_ok n f_0 f_1 f_2 100 r2_0 cr2_0), b2_3, (f37_broughamlaw35_parts_ok n g_0 g_1 g_2 100 r2_1 cr2_1), b2_8, rfl, trivial⟩ ?_
      have h := Option.some.inj h
      subst h
      exact At.fin hm ht ⟨[], [], [], [6], []⟩ [] (by kernel_rfl) trivial
    · obtain ⟨r2_2, cr2_2, h⟩ := bindS h
      rcases iteS h with ⟨b2_13, h⟩ | ⟨b2_13, h⟩
      · refine At.step hm ht ⟨[(1, .call [] [] (f37_broughamlaw35_parts_out r2_0)), (3, .b false), (5, .call [] [] (f37_broughamlaw35_parts_out r2_1)), (8, .b false), (10, .call [] [] (f30_broughamref35_Right_out r2_2)), (13, .b true)], [true], [], [], []⟩ 2 ⟨[], [], [], 0⟩ [FnOK Tryd.prog 37 (f37_broughamlaw35_parts_in f_0 f_1 f_2 100) (f37_broughamlaw35_parts_out r2_0), (decide ((r2_0 : Int) > 100)) = false, FnOK Tryd.prog 37 (f37_broughamlaw35_parts_in g_0 g_1 g_2 100) (f37_broughamlaw35_parts_out r2_1), (decide ((r2_1 : Int) > 100)) = false, FnOK Tryd.prog 30 (f30_broughamref35_Right_in f_0 f_1 f_2) (f30_broughamref35_Right_out r2_2), (!r2_2) = true, true = true] (by kernel_rfl) ⟨(f37_broughamlaw35_parts_ok n f_0 f_1 f_2 100 r2_0 cr2_0), b2_3, (f37_broughamlaw35_parts_ok n g_0 g_1 g_2 100 r2_1 cr2_1), b2_8, (f30_broughamref35_Right_ok n f_0 f_1 f_2 r2_2 cr2_2), b2_13, rfl, trivial⟩ ?_
        have h := Option.some.inj h
        subst h
        exact At.fin hm ht ⟨[], [], [], [6], []⟩ [] (by kernel_rfl) trivial
      · obtain ⟨r2_3, cr2_3, h⟩ := bindS h
        rcases iteS h with ⟨b2_18, h⟩ | ⟨b2_18, h⟩
        · refine At.step hm ht ⟨[(1, .call [] [] (f37_broughamlaw35_parts_out r2_0)), (3, .b false), (5, .call [] [] (f37_broughamlaw35_parts_out r2_1)), (8, .b false), (10, .call [] [] (f30_broughamref35_Right_out r2_2)), (13, .b false), (15, .call [] [] (f30_broughamref35_Right_out r2_3)), (18, .b true)], [true], [], [], []⟩ 2 ⟨[], [], [], 0⟩ [FnOK Tryd.prog 37 (f37_broughamlaw35_parts_in f_0 f_1 f_2 100) (f37_broughamlaw35_parts_out r2_0), (decide ((r2_0 : Int) > 100)) = false, FnOK Tryd.prog 37 (f37_broughamlaw35_parts_in g_0 g_1 g_2 100) (f37_broughamlaw35_parts_out r2_1), (decide ((r2_1 : Int) > 100)) = false, FnOK Tryd.prog 30 (f30_broughamref35_Right_in f_0 f_1 f_2) (f30_broughamref35_Right_out r2_2), (!r2_2) = false, FnOK Tryd.prog 30 (f30_broughamref35_Right_in g_0 g_1 g_2) (f30_broughamref35_Right_out r2_3), (!r2_3) = true, true = true] (by kernel_rfl) ⟨(f37_broughamlaw35_parts_ok n f_0 f_1 f_2 100 r2_0 cr2_0), b2_3, (f37_broughamlaw35_parts_ok n g_0 g_1 g_2 100 r2_1 cr2_1), b2_8, (f30_broughamref35_Right_ok n f_0 f_1 f_2 r2_2 cr2_2), b2_13, (f30_broughamref35_Right_ok n g_0 g_1 g_2 r2_3 cr2_3), b2_18, rfl, trivial⟩ ?_
          have h := Option.some.inj h
          subst h
          exact At.fin hm ht ⟨[], [], [], [6], []⟩ [] (by kernel_rfl) trivial
        · obtain ⟨r2_4, cr2_4, h⟩ := bindS h
          rcases iteS h with ⟨b2_e0, h⟩ | ⟨b2_e0, h⟩
          · refine At.step hm ht ⟨[(1, .call [] [] (f37_broughamlaw35_parts_out r2_0)), (3, .b false), (5, .call [] [] (f37_broughamlaw35_parts_out r2_1)), (8, .b false), (10, .call [] [] (f30_broughamref35_Right_out r2_2)), (13, .b false), (15, .call [] [] (f30_broughamref35_Right_out r2_3)), (18, .b false), (20, .call [] [] (f29_broughamlaw07_Great_out r2_4))], [true], [], [], []⟩ 2 ⟨[], [], [], 0⟩ [FnOK Tryd.prog 37 (f37_broughamlaw35_parts_in f_0 f_1 f_2 100) (f37_broughamlaw35_parts_out r2_0), (decide ((r2_0 : Int) > 100)) = false, FnOK Tryd.prog 37 (f37_broughamlaw35_parts_in g_0 g_1 g_2 100) (f37_broughamlaw35_parts_out r2_1), (decide ((r2_1 : Int) > 100)) = false, FnOK Tryd.prog 30 (f30_broughamref35_Right_in f_0 f_1 f_2) (f30_broughamref35_Right_out r2_2), (!r2_2) = false, FnOK Tryd.prog 30 (f30_broughamref35_Right_in g_0 g_1 g_2) (f30_broughamref35_Right_out r2_3), (!r2_3) = false, FnOK Tryd.prog 29 (f29_broughamlaw07_Great_in s_0 s_1 s_2 s_3 s_4 s_5 s_6) (f29_broughamlaw07_Great_out r2_4), r2_4 = true] (by kernel_rfl) ⟨(f37_broughamlaw35_parts_ok n f_0 f_1 f_2 100 r2_0 cr2_0), b2_3, (f37_broughamlaw35_parts_ok n g_0 g_1 g_2 100 r2_1 cr2_1), b2_8, (f30_broughamref35_Right_ok n f_0 f_1 f_2 r2_2 cr2_2), b2_13, (f30_broughamref35_Right_ok n g_0 g_1 g_2 r2_3 cr2_3), b2_18, (f29_broughamlaw07_Great_ok n s_0 s_1 s_2 s_3 s_4 s_5 s_6 r2_4 cr2_4), b2_e0, trivial⟩ ?_
            have h := Option.some.inj h
            subst h
            exact At.fin hm ht ⟨[], [], [], [6], []⟩ [] (by kernel_rfl) trivial
          · refine At.step hm ht ⟨[(1, .call [] [] (f37_broughamlaw35_parts_out r2_0)), (3, .b false), (5, .call [] [] (f37_broughamlaw35_parts_out r2_1)), (8, .b false), (10, .call [] [] (f30_broughamref35_Right_out r2_2)), (13, .b false), (15, .call [] [] (f30_broughamref35_Right_out r2_3)), (18, .b false), (20, .call [] [] (f29_broughamlaw07_Great_out r2_4))], [false], [], [3, 4, 5], [0, 1, 2]⟩ 3 ⟨[(3, oc (.ptr 0 0)), (4, oc (.ptr 1 0)), (5, oc (.ptr 2 0))], [], [(0, [zi f_0, zi f_1, .d (.sl (.pair (.int .i64) (.pair (.int .i64) .wood)) f_2)]), (1, [zi g_0, zi g_1, .d (.sl (.pair (.int .i64) (.pair (.int .i64) .wood)) g_2)]), (2, [.d (.int .u16 s_0), .d (.int .u16 s_1), .d (.int .u32 s_2), .d (.int .u32 s_3), .d (.int .u8 s_4), .d (.sl (.pair (.int .u8) (.slice (.int .u8))) s_5), .d (.sl (.int .u8) s_6)])], 3⟩ [FnOK Tryd.prog 37 (f37_broughamlaw35_parts_in f_0 f_1 f_2 100) (f37_broughamlaw35_parts_out r2_0), (decide ((r2_0 : Int) > 100)) = false, FnOK Tryd.prog 37 (f37_broughamlaw35_parts_in g_0 g_1 g_2 100) (f37_broughamlaw35_parts_out r2_1), (decide ((r2_1 : Int) > 100)) = false, FnOK Tryd.prog 30 (f30_broughamref35_Right_in f_0 f_1 f_2) (f30_broughamref35_Right_out r2_2), (!r2_2) = false, FnOK Tryd.prog 30 (f30_broughamref35_Right_in g_0 g_1 g_2) (f30_broughamref35_Right_out r2_3), (!r2_3) = false, FnOK Tryd.prog 29 (f29_broughamlaw07_Great_in s_0 s_1 s_2 s_3 s_4 s_5 s_6) (f29_broughamlaw07_Great_out r2_4), r2_4 = false] (by kernel_rfl) ⟨(f37_broughamlaw35_parts_ok n f_0 f_1 f_2 100 r2_0 cr2_0), b2_3, (f37_broughamlaw35_parts_ok n g_0 g_1 g_2 100 r2_1 cr2_1), b2_8, (f30_broughamref35_Right_ok n f_0 f_1 f_2 r2_2 cr2_2), b2_13, (f30_broughamref35_Right_ok n g_0 g_1 g_2 r2_3 cr2_3), b2_18, (f29_broughamlaw07_Great_ok n s_0 s_1 s_2 s_3 s_4 s_5 s_6 r2_4 cr2_4), b2_e0, trivial⟩ ?_
            obtain ⟨r115_0, cr115_0, h⟩ := bindS h
            obtain ⟨r115_1, cr115_1, h⟩ := bindS h
            refine At.step hm ht ⟨[(1, .call [] [] (f28_broughamlaw35_Made_out r115_0)), (3, .call [] [] (f28_broughamlaw35_Made_out r115_1))], [], [], [3, 5, 7, 8], [0, 2]⟩ 4 ⟨[(3, oc (.ptr 0 0)), (5, oc (.ptr 1 0)), (7, oc (.d (.pt r115_0))), (8, oc (.d (.pt r115_1)))], [], [(0, [zi f_0, zi f_1, .d (.sl (.pair (.int .i64) (.pair (.int .i64) .wood)) f_2)]), (1, [.d (.int .u16 s_0), .d (.int .u16 s_1), .d (.int .u32 s_2), .d (.int .u32 s_3), .d (.int .u8 s_4), .d (.sl (.pair (.int .u8) (.slice (.int .u8))) s_5), .d (.sl (.int .u8) s_6)])], 2⟩ [FnOK Tryd.prog 28 (f28_broughamlaw35_Made_in f_0 f_1 f_2) (f28_broughamlaw35_Made_out r115_0), FnOK Tryd.prog 28 (f28_broughamlaw35_Made_in g_0 g_1 g_2) (f28_broughamlaw35_Made_out r115_1)] (by kernel_rfl) ⟨(f28_broughamlaw35_Made_ok n f_0 f_1 f_2 r115_0 cr115_0), (f28_broughamlaw35_Made_ok n g_0 g_1 g_2 r115_1 cr115_1), trivial⟩ ?_
            obtain ⟨r135_0, cr135_0, h⟩ := bindS h
            obtain ⟨r135_1, cr135_1, h⟩ := bindS h
            refine At.step hm ht ⟨[(2, .call [] [] (f32_filter_Match_out r135_0)), (5, .call [] [] (f32_filter_Match_out r135_1))], [], [], [3, 5, 7, 8, 9, 10], [0, 1]⟩ 5 ⟨[(3, oc (.ptr 0 0)), (5, oc (.ptr 1 0)), (7, oc (.d (.pt r115_0))), (8, oc (.d (.pt r115_1))), (9, oc (.d (.bool r135_0))), (10, oc (.d (.bool r135_1)))], [], [(0, [zi f_0, zi f_1, .d (.sl (.pair (.int .i64) (.pair (.int .i64) .wood)) f_2)]), (1, [.d (.int .u16 s_0), .d (.int .u16 s_1), .d (.int .u32 s_2), .d (.int .u32 s_3), .d (.int .u8 s_4), .d (.sl (.pair (.int .u8) (.slice (.int .u8))) s_5), .d (.sl (.int .u8) s_6)])], 2⟩ [FnOK Tryd.prog 32 (f32_filter_Match_in r115_0 s_0 s_1 s_2 s_3 s_4 s_5 s_6) (f32_filter_Match_out r135_0), FnOK Tryd.prog 32 (f32_filter_Match_in r115_1 s_0 s_1 s_2 s_3 s_4 s_5 s_6) (f32_filter_Match_out r135_1)] (by kernel_rfl) ⟨(f32_filter_Match_ok n r115_0 s_0 s_1 s_2 s_3 s_4 s_5 s_6 r135_0 cr135_0), (f32_filter_Match_ok n r115_1 s_0 s_1 s_2 s_3 s_4 s_5 s_6 r135_1 cr135_1), trivial⟩ ?_
            refine At.step hm ht ⟨[], [], [.tree 4], [3, 5, 7, 8, 9, 10, 11], [0, 1]⟩ 6 ⟨[(3, oc (.ptr 0 0)), (5, oc (.ptr 1 0)), (7, oc (.d (.pt r115_0))), (8, oc (.d (.pt r115_1))), (9, oc (.d (.bool r135_0))), (10, oc (.d (.bool r135_1))), (11, oc (.d (.pt (PT.node 8 0 r115_0 PT.nil))))], [], [(0, [zi f_0, zi f_1, .d (.sl (.pair (.int .i64) (.pair (.int .i64) .wood)) f_2)]), (1, [.d (.int .u16 s_0), .d (.int .u16 s_1), .d (.int .u32 s_2), .d (.int .u32 s_3), .d (.int .u8 s_4), .d (.sl (.pair (.int .u8) (.slice (.int .u8))) s_5), .d (.sl (.int .u8) s_6)])], 2⟩ [] (by kernel_rfl) trivial ?_
            refine At.step hm ht ⟨[], [], [.tree 5], [3, 5, 7, 8, 9, 10, 11, 12], [0, 1]⟩ 7 ⟨[(3, oc (.ptr 0 0)), (5, oc (.ptr 1 0)), (7, oc (.d (.pt r115_0))), (8, oc (.d (.pt r115_1))), (9, oc (.d (.bool r135_0))), (10, oc (.d (.bool r135_1))), (11, oc (.d (.pt (PT.node 8 0 r115_0 PT.nil)))), (12, oc (.d (.pt (PT.node 10 0 r115_0 r115_1))))], [], [(0, [zi f_0, zi f_1, .d (.sl (.pair (.int .i64) (.pair (.int .i64) .wood)) f_2)]), (1, [.d (.int .u16 s_0), .d (.int .u16 s_1), .d (.int .u32 s_2), .d (.int .u32 s_3), .d (.int .u8 s_4), .d (.sl (.pair (.int .u8) (.slice (.int .u8))) s_5), .d (.sl (.int .u8) s_6)])], 2⟩ [] (by kernel_rfl) trivial ?_
            obtain ⟨r216_0, cr216_0, h⟩ := bindS h
            refine At.step hm ht ⟨[(3, .call [] [] (f38_filter_Both_out r216_0))], [], [], [3, 5, 7, 9, 10, 11, 12, 13], [0, 1]⟩ 8 ⟨[(3, oc (.ptr 0 0)), (5, oc (.ptr 1 0)), (7, oc (.d (.pt r115_0))), (9, oc (.d (.bool r135_0))), (10, oc (.d (.bool r135_1))), (11, oc (.d (.pt (PT.node 8 0 r115_0 PT.nil)))), (12, oc (.d (.pt (PT.node 10 0 r115_0 r115_1)))), (13, oc (.d (.pt r216_0)))], [], [(0, [zi f_0, zi f_1, .d (.sl (.pair (.int .i64) (.pair (.int .i64) .wood)) f_2)]), (1, [.d (.int .u16 s_0), .d (.int .u16 s_1), .d (.int .u32 s_2), .d (.int .u32 s_3), .d (.int .u8 s_4), .d (.sl (.pair (.int .u8) (.slice (.int .u8))) s_5), .d (.sl (.int .u8) s_6)])], 2⟩ [FnOK Tryd.prog 38 (f38_filter_Both_in [r115_0, r115_1]) (f38_filter_Both_out r216_0)] (by kernel_rfl) ⟨(f38_filter_Both_ok n [r115_0, r115_1] r216_0 cr216_0), trivial⟩ ?_
            obtain ⟨r229_0, cr229_0, h⟩ := bindS h
            rcases iteS h with ⟨b229_3, h⟩ | ⟨b229_3, h⟩
            · refine At.step hm ht ⟨[(1, .call [] [] (f31_filter_Right_out r229_0)), (3, .b true)], [true], [], [], []⟩ 9 ⟨[], [], [], 0⟩ [FnOK Tryd.prog 31 (f31_filter_Right_in (PT.node 8 0 r115_0 PT.nil)) (f31_filter_Right_out r229_0), (!r229_0) = true, true = true] (by kernel_rfl) ⟨(f31_filter_Right_ok n (PT.node 8 0 r115_0 PT.nil) r229_0 cr229_0), b229_3, rfl, trivial⟩ ?_
              obtain ⟨r230_0, cr230_0, h⟩ := bindS h
              obtain ⟨r230_1, cr230_1, h⟩ := bindS h
              obtain ⟨r230_2, cr230_2, h⟩ := bindS h
              rcases iteS h with ⟨b230_4, h⟩ | ⟨b230_4, h⟩
              · obtain ⟨r230_3, cr230_3, h⟩ := bindS h
                have h := Option.some.inj h
                subst h
                exact At.fin hm ht ⟨[(0, .call [] [(0, 0, .tree)] (f38_filter_Both_out r230_0)), (1, .call [] [] (f25_broughamlaw35_Plain_out r230_1)), (3, .call [] [(1, 2, (.pair (.int .i64) (.pair (.int .i64) .wood)))] (f24_broughamref35_Same_out r230_2)), (4, .b true), (5, .call [] [] (f23_broughamlaw35_alive_out r230_3))], [], [], [6], []⟩ [FnOK Tryd.prog 38 (f38_filter_Both_in []) (f38_filter_Both_out r230_0), FnOK Tryd.prog 25 (f25_broughamlaw35_Plain_in r230_0 20) (f25_broughamlaw35_Plain_out r230_1), FnOK Tryd.prog 24 (f24_broughamref35_Same_in r230_1.1 r230_1.2.1 r230_1.2.2 1 0 []) (f24_broughamref35_Same_out r230_2), r230_2 = true, FnOK Tryd.prog 23 (f23_broughamlaw35_alive_in) (f23_broughamlaw35_alive_out r230_3)] (by kernel_rfl) ⟨(f38_filter_Both_ok n [] r230_0 cr230_0), (f25_broughamlaw35_Plain_ok n r230_0 20 r230_1 cr230_1), (f24_broughamref35_Same_ok n r230_1.1 r230_1.2.1 r230_1.2.2 1 0 [] r230_2 cr230_2), b230_4, (f23_broughamlaw35_alive_ok n r230_3 cr230_3), trivial⟩
              · have h := Option.some.inj h
                subst h
                exact At.fin hm ht ⟨[(0, .call [] [(0, 0, .tree)] (f38_filter_Both_out r230_0)), (1, .call [] [] (f25_broughamlaw35_Plain_out r230_1)), (3, .call [] [(1, 2, (.pair (.int .i64) (.pair (.int .i64) .wood)))] (f24_broughamref35_Same_out r230_2)), (4, .b false)], [], [], [6], []⟩ [FnOK Tryd.prog 38 (f38_filter_Both_in []) (f38_filter_Both_out r230_0), FnOK Tryd.prog 25 (f25_broughamlaw35_Plain_in r230_0 20) (f25_broughamlaw35_Plain_out r230_1), FnOK Tryd.prog 24 (f24_broughamref35_Same_in r230_1.1 r230_1.2.1 r230_1.2.2 1 0 []) (f24_broughamref35_Same_out r230_2), r230_2 = false] (by kernel_rfl) ⟨(f38_filter_Both_ok n [] r230_0 cr230_0), (f25_broughamlaw35_Plain_ok n r230_0 20 r230_1 cr230_1), (f24_broughamref35_Same_ok n r230_1.1 r230_1.2.1 r230_1.2.2 1 0 [] r230_2 cr230_2), b230_4, trivial⟩
            · obtain ⟨r229_1, cr229_1, h⟩ := bindS h
              rcases iteS h with ⟨b229_e0, h⟩ | ⟨b229_e0, h⟩
              · refine At.step hm ht ⟨[(1, .call [] [] (f31_filter_Right_out r229_0)), (3, .b false), (5, .call [] [] (f31_filter_Right_out r229_1))], [true], [], [], []⟩ 9 ⟨[], [], [], 0⟩ [FnOK Tryd.prog 31 (f31_filter_Right_in (PT.node 8 0 r115_0 PT.nil)) (f31_filter_Right_out r229_0), (!r229_0) = false, FnOK Tryd.prog 31 (f31_filter_Right_in (PT.node 10 0 r115_0 r115_1)) (f31_filter_Right_out r229_1), (!r229_1) = true] (by kernel_rfl) ⟨(f31_filter_Right_ok n (PT.node 8 0 r115_0 PT.nil) r229_0 cr229_0), b229_3, (f31_filter_Right_ok n (PT.node 10 0 r115_0 r115_1) r229_1 cr229_1), b229_e0, trivial⟩ ?_
                obtain ⟨r475_0, cr475_0, h⟩ := bindS h
                obtain ⟨r475_1, cr475_1, h⟩ := bindS h
                obtain ⟨r475_2, cr475_2, h⟩ := bindS h
                rcases iteS h with ⟨b475_4, h⟩ | ⟨b475_4, h⟩
                · obtain ⟨r475_3, cr475_3, h⟩ := bindS h
                  have h := Option.some.inj h
                  subst h
                  exact At.fin hm ht ⟨[(0, .call [] [(0, 0, .tree)] (f38_filter_Both_out r475_0)), (1, .call [] [] (f25_broughamlaw35_Plain_out r475_1)), (3, .call [] [(1, 2, (.pair (.int .i64) (.pair (.int .i64) .wood)))] (f24_broughamref35_Same_out r475_2)), (4, .b true), (5, .call [] [] (f23_broughamlaw35_alive_out r475_3))], [], [], [6], []⟩ [FnOK Tryd.prog 38 (f38_filter_Both_in []) (f38_filter_Both_out r475_0), FnOK Tryd.prog 25 (f25_broughamlaw35_Plain_in r475_0 20) (f25_broughamlaw35_Plain_out r475_1), FnOK Tryd.prog 24 (f24_broughamref35_Same_in r475_1.1 r475_1.2.1 r475_1.2.2 1 0 []) (f24_broughamref35_Same_out r475_2), r475_2 = true, FnOK Tryd.prog 23 (f23_broughamlaw35_alive_in) (f23_broughamlaw35_alive_out r475_3)] (by kernel_rfl) ⟨(f38_filter_Both_ok n [] r475_0 cr475_0), (f25_broughamlaw35_Plain_ok n r475_0 20 r475_1 cr475_1), (f24_broughamref35_Same_ok n r475_1.1 r475_1.2.1 r475_1.2.2 1 0 [] r475_2 cr475_2), b475_4, (f23_broughamlaw35_alive_ok n r475_3 cr475_3), trivial⟩
                · have h := Option.some.inj h
                  subst h
                  exact At.fin hm ht ⟨[(0, .call [] [(0, 0, .tree)] (f38_filter_Both_out r475_0)), (1, .call [] [] (f25_broughamlaw35_Plain_out r475_1)), (3, .call [] [(1, 2, (.pair (.int .i64) (.pair (.int .i64) .wood)))] (f24_broughamref35_Same_out r475_2)), (4, .b false)], [], [], [6], []⟩ [FnOK Tryd.prog 38 (f38_filter_Both_in []) (f38_filter_Both_out r475_0), FnOK Tryd.prog 25 (f25_broughamlaw35_Plain_in r475_0 20) (f25_broughamlaw35_Plain_out r475_1), FnOK Tryd.prog 24 (f24_broughamref35_Same_in r475_1.1 r475_1.2.1 r475_1.2.2 1 0 []) (f24_broughamref35_Same_out r475_2), r475_2 = false] (by kernel_rfl) ⟨(f38_filter_Both_ok n [] r475_0 cr475_0), (f25_broughamlaw35_Plain_ok n r475_0 20 r475_1 cr475_1), (f24_broughamref35_Same_ok n r475_1.1 r475_1.2.1 r475_1.2.2 1 0 [] r475_2 cr475_2), b475_4, trivial⟩
              · refine At.step hm ht ⟨[(1, .call [] [] (f31_filter_Right_out r229_0)), (3, .b false), (5, .call [] [] (f31_filter_Right_out r229_1))], [false], [], [3, 5, 7, 9, 10, 11, 12, 13], [0, 1]⟩ 10 ⟨[(3, oc (.ptr 0 0)), (5, oc (.ptr 1 0)), (7, oc (.d (.pt r115_0))), (9, oc (.d (.bool r135_0))), (10, oc (.d (.bool r135_1))), (11, oc (.d (.pt (PT.node 8 0 r115_0 PT.nil)))), (12, oc (.d (.pt (PT.node 10 0 r115_0 r115_1)))), (13, oc (.d (.pt r216_0)))], [], [(0, [zi f_0, zi f_1, .d (.sl (.pair (.int .i64) (.pair (.int .i64) .wood)) f_2)]), (1, [.d (.int .u16 s_0), .d (.int .u16 s_1), .d (.int .u32 s_2), .d (.int .u32 s_3), .d (.int .u8 s_4), .d (.sl (.pair (.int .u8) (.slice (.int .u8))) s_5), .d (.sl (.int .u8) s_6)])], 2⟩ [FnOK Tryd.prog 31 (f31_filter_Right_in (PT.node 8 0 r115_0 PT.nil)) (f31_filter_Right_out r229_0), (!r229_0) = false, FnOK Tryd.prog 31 (f31_filter_Right_in (PT.node 10 0 r115_0 r115_1)) (f31_filter_Right_out r229_1), (!r229_1) = false] (by kernel_rfl) ⟨(f31_filter_Right_ok n (PT.node 8 0 r115_0 PT.nil) r229_0 cr229_0), b229_3, (f31_filter_Right_ok n (PT.node 10 0 r115_0 r115_1) r229_1 cr229_1), b229_e0, trivial⟩ ?_
                obtain ⟨r476_0, cr476_0, h⟩ := bindS h
                rcases iteS h with ⟨b476_6, h⟩ | ⟨b476_6, h⟩
                · obtain ⟨r476_1, cr476_1, h⟩ := bindS h
                  rcases iteS h with ⟨b476_11, h⟩ | ⟨b476_11, h⟩
                  · rcases iteS h with ⟨b476_16, h⟩ | ⟨b476_16, h⟩
                    · obtain ⟨r476_2, cr476_2, h⟩ := bindS h
                      rcases iteS h with ⟨b476_21, h⟩ | ⟨b476_21, h⟩
                      · rcases iteS h with ⟨b476_26, h⟩ | ⟨b476_26, h⟩
                        · obtain ⟨r476_3, cr476_3, h⟩ := bindS h
                          obtain ⟨r476_4, cr476_4, h⟩ := bindS h
                          obtain ⟨r476_5, cr476_5, h⟩ := bindS h
                          rcases iteS h with ⟨b476_34, h⟩ | ⟨b476_34, h⟩
                          · obtain ⟨r476_6, cr476_6, h⟩ := bindS h
                            obtain ⟨r476_7, cr476_7, h⟩ := bindS h
                            rcases iteS h with ⟨b476_39, h⟩ | ⟨b476_39, h⟩
                            · obtain ⟨r476_8, cr476_8, h⟩ := bindS h
                              have h := Option.some.inj h
                              subst h
                              exact At.fin hm ht ⟨[(2, .call [] [] (f32_filter_Match_out r476_0)), (6, .b true), (9, .call [] [] (f32_filter_Match_out r476_1)), (11, .b true), (16, .b true), (19, .call [] [] (f32_filter_Match_out r476_2)), (21, .b true), (26, .b true), (29, .call [] [] (f38_filter_Both_out r476_3)), (30, .call [] [] (f25_broughamlaw35_Plain_out r476_4)), (32, .call [] [] (f24_broughamref35_Same_out r476_5)), (34, .b true), (35, .call [] [(0, 0, .tree)] (f38_filter_Both_out r476_6)), (37, .call [] [] (f32_filter_Match_out r476_7)), (39, .b true), (40, .call [] [] (f23_broughamlaw35_alive_out r476_8))], [], [], [6], []⟩ [FnOK Tryd.prog 32 (f32_filter_Match_in (PT.node 8 0 r115_0 PT.nil) s_0 s_1 s_2 s_3 s_4 s_5 s_6) (f32_filter_Match_out r476_0), (r476_0 == (!r135_0)) = true, FnOK Tryd.prog 32 (f32_filter_Match_in (PT.node 10 0 r115_0 r115_1) s_0 s_1 s_2 s_3 s_4 s_5 s_6) (f32_filter_Match_out r476_1), r135_0 = true, (r476_1 == true) = true, FnOK Tryd.prog 32 (f32_filter_Match_in r216_0 s_0 s_1 s_2 s_3 s_4 s_5 s_6) (f32_filter_Match_out r476_2), r135_0 = true, (r476_2 == r135_1) = true, FnOK Tryd.prog 38 (f38_filter_Both_in [r115_0]) (f38_filter_Both_out r476_3), FnOK Tryd.prog 25 (f25_broughamlaw35_Plain_in r476_3 20) (f25_broughamlaw35_Plain_out r476_4), FnOK Tryd.prog 24 (f24_broughamref35_Same_in r476_4.1 r476_4.2.1 r476_4.2.2 f_0 f_1 f_2) (f24_broughamref35_Same_out r476_5), r476_5 = true, FnOK Tryd.prog 38 (f38_filter_Both_in []) (f38_filter_Both_out r476_6), FnOK Tryd.prog 32 (f32_filter_Match_in r476_6 s_0 s_1 s_2 s_3 s_4 s_5 s_6) (f32_filter_Match_out r476_7), r476_7 = true, FnOK Tryd.prog 23 (f23_broughamlaw35_alive_in) (f23_broughamlaw35_alive_out r476_8)] (by kernel_rfl) ⟨(f32_filter_Match_ok n (PT.node 8 0 r115_0 PT.nil) s_0 s_1 s_2 s_3 s_4 s_5 s_6 r476_0 cr476_0), b476_6, (f32_filter_Match_ok n (PT.node 10 0 r115_0 r115_1) s_0 s_1 s_2 s_3 s_4 s_5 s_6 r476_1 cr476_1), b476_11, b476_16, (f32_filter_Match_ok n r216_0 s_0 s_1 s_2 s_3 s_4 s_5 s_6 r476_2 cr476_2), b476_21, b476_26, (f38_filter_Both_ok n [r115_0] r476_3 cr476_3), (f25_broughamlaw35_Plain_ok n r476_3 20 r476_4 cr476_4), (f24_broughamref35_Same_ok n r476_4.1 r476_4.2.1 r476_4.2.2 f_0 f_1 f_2 r476_5 cr476_5), b476_34, (f38_filter_Both_ok n [] r476_6 cr476_6), (f32_filter_Match_ok n r476_6 s_0 s_1 s_2 s_3 s_4 s_5 s_6 r476_7 cr476_7), b476_39, (f23_broughamlaw35_alive_ok n r476_8 cr476_8), trivial⟩
                            · have h := Option.some.inj h
                              subst h
                              exact At.fin hm ht ⟨[(2, .call [] [] (f32_filter_Match_out r476_0)), (6, .b true), (9, .call [] [] (f32_filter_Match_out r476_1)), (11, .b true), (16, .b true), (19, .call [] [] (f32_filter_Match_out r476_2)), (21, .b true), (26, .b true), (29, .call [] [] (f38_filter_Both_out r476_3)), (30, .call [] [] (f25_broughamlaw35_Plain_out r476_4)), (32, .call [] [] (f24_broughamref35_Same_out r476_5)), (34, .b true), (35, .call [] [(0, 0, .tree)] (f38_filter_Both_out r476_6)), (37, .call [] [] (f32_filter_Match_out r476_7)), (39, .b false)], [], [], [6], []⟩ [FnOK Tryd.prog 32 (f32_filter_Match_in (PT.node 8 0 r115_0 PT.nil) s_0 s_1 s_2 s_3 s_4 s_5 s_6) (f32_filter_Match_out r476_0), (r476_0 == (!r135_0)) = true, FnOK Tryd.prog 32 (f32_filter_Match_in (PT.node 10 0 r115_0 r115_1) s_0 s_1 s_2 s_3 s_4 s_5 s_6) (f32_filter_Match_out r476_1), r135_0 = true, (r476_1 == true) = true, FnOK Tryd.prog 32 (f32_filter_Match_in r216_0 s_0 s_1 s_2 s_3 s_4 s_5 s_6) (f32_filter_Match_out r476_2), r135_0 = true, (r476_2 == r135_1) = true, FnOK Tryd.prog 38 (f38_filter_Both_in [r115_0]) (f38_filter_Both_out r476_3), FnOK Tryd.prog 25 (f25_broughamlaw35_Plain_in r476_3 20) (f25_broughamlaw35_Plain_out r476_4), FnOK Tryd.prog 24 (f24_broughamref35_Same_in r476_4.1 r476_4.2.1 r476_4.2.2 f_0 f_1 f_2) (f24_broughamref35_Same_out r476_5), r476_5 = true, FnOK Tryd.prog 38 (f38_filter_Both_in []) (f38_filter_Both_out r476_6), FnOK Tryd.prog 32 (f32_filter_Match_in r476_6 s_0 s_1 s_2 s_3 s_4 s_5 s_6) (f32_filter_Match_out r476_7), r476_7 = false] (by kernel_rfl) ⟨(f32_filter_Match_ok n (PT.node 8 0 r115_0 PT.nil) s_0 s_1 s_2 s_3 s_4 s_5 s_6 r476_0 cr476_0), b476_6, (f32_filter_Match_ok n (PT.node 10 0 r115_0 r115_1) s_0 s_1 s_2 s_3 s_4 s_5 s_6 r476_1 cr476_1), b476_11, b476_16, (f32_filter_Match_ok n r216_0 s_0 s_1 s_2 s_3 s_4 s_5 s_6 r476_2 cr476_2), b476_21, b476_26, (f38_filter_Both_ok n [r115_0] r476_3 cr476_3), (f25_broughamlaw35_Plain_ok n r476_3 20 r476_4 cr476_4), (f24_broughamref35_Same_ok n r476_4.1 r476_4.2.1 r476_4.2.2 f_0 f_1 f_2 r476_5 cr476_5), b476_34, (f38_filter_Both_ok n [] r476_6 cr476_6), (f32_filter_Match_ok n r476_6 s_0 s_1 s_2 s_3 s_4 s_5 s_6 r476_7 cr476_7), b476_39, trivial⟩
                          · have h := Option.some.inj h
                            subst h
                            exact At.fin hm ht ⟨[(2, .call [] [] (f32_filter_Match_out r476_0)), (6, .b true), (9, .call [] [] (f32_filter_Match_out r476_1)), (11, .b true), (16, .b true), (19, .call [] [] (f32_filter_Match_out r476_2)), (21, .b true), (26, .b true), (29, .call [] [] (f38_filter_Both_out r476_3)), (30, .call [] [] (f25_broughamlaw35_Plain_out r476_4)), (32, .call [] [] (f24_broughamref35_Same_out r476_5)), (34, .b false)], [], [], [6], []⟩ [FnOK Tryd.prog 32 (f32_filter_Match_in (PT.node 8 0 r115_0 PT.nil) s_0 s_1 s_2 s_3 s_4 s_5 s_6) (f32_filter_Match_out r476_0), (r476_0 == (!r135_0)) = true, FnOK Tryd.prog 32 (f32_filter_Match_in (PT.node 10 0 r115_0 r115_1) s_0 s_1 s_2 s_3 s_4 s_5 s_6) (f32_filter_Match_out r476_1), r135_0 = true, (r476_1 == true) = true, FnOK Tryd.prog 32 (f32_filter_Match_in r216_0 s_0 s_1 s_2 s_3 s_4 s_5 s_6) (f32_filter_Match_out r476_2), r135_0 = true, (r476_2 == r135_1) = true, FnOK Tryd.prog 38 (f38_filter_Both_in [r115_0]) (f38_filter_Both_out r476_3), FnOK Tryd.prog 25 (f25_broughamlaw35_Plain_in r476_3 20) (f25_broughamlaw35_Plain_out r476_4), FnOK Tryd.prog 24 (f24_broughamref35_Same_in r476_4.1 r476_4.2.1 r476_4.2.2 f_0 f_1 f_2) (f24_broughamref35_Same_out r476_5), r476_5 = false] (by kernel_rfl) ⟨(f32_filter_Match_ok n (PT.node 8 0 r115_0 PT.nil) s_0 s_1 s_2 s_3 s_4 s_5 s_6 r476_0 cr476_0), b476_6, (f32_filter_Match_ok n (PT.node 10 0 r115_0 r115_1) s_0 s_1 s_2 s_3 s_4 s_5 s_6 r476_1 cr476_1), b476_11, b476_16, (f32_filter_Match_ok n r216_0 s_0 s_1 s_2 s_3 s_4 s_5 s_6 r476_2 cr476_2), b476_21, b476_26, (f38_filter_Both_ok n [r115_0] r476_3 cr476_3), (f25_broughamlaw35_Plain_ok n r476_3 20 r476_4 cr476_4), (f24_broughamref35_Same_ok n r476_4.1 r476_4.2.1 r476_4.2.2 f_0 f_1 f_2 r476_5 cr476_5), b476_34, trivial⟩
                        · have h := Option.some.inj h
                          subst h
                          exact At.fin hm ht ⟨[(2, .call [] [] (f32_filter_Match_out r476_0)), (6, .b true), (9, .call [] [] (f32_filter_Match_out r476_1)), (11, .b true), (16, .b true), (19, .call [] [] (f32_filter_Match_out r476_2)), (21, .b true), (26, .b false)], [], [], [6], []⟩ [FnOK Tryd.prog 32 (f32_filter_Match_in (PT.node 8 0 r115_0 PT.nil) s_0 s_1 s_2 s_3 s_4 s_5 s_6) (f32_filter_Match_out r476_0), (r476_0 == (!r135_0)) = true, FnOK Tryd.prog 32 (f32_filter_Match_in (PT.node 10 0 r115_0 r115_1) s_0 s_1 s_2 s_3 s_4 s_5 s_6) (f32_filter_Match_out r476_1), r135_0 = true, (r476_1 == true) = true, FnOK Tryd.prog 32 (f32_filter_Match_in r216_0 s_0 s_1 s_2 s_3 s_4 s_5 s_6) (f32_filter_Match_out r476_2), r135_0 = true, (r476_2 == r135_1) = false] (by kernel_rfl) ⟨(f32_filter_Match_ok n (PT.node 8 0 r115_0 PT.nil) s_0 s_1 s_2 s_3 s_4 s_5 s_6 r476_0 cr476_0), b476_6, (f32_filter_Match_ok n (PT.node 10 0 r115_0 r115_1) s_0 s_1 s_2 s_3 s_4 s_5 s_6 r476_1 cr476_1), b476_11, b476_16, (f32_filter_Match_ok n r216_0 s_0 s_1 s_2 s_3 s_4 s_5 s_6 r476_2 cr476_2), b476_21, b476_26, trivial⟩
                      · rcases iteS h with ⟨b476_26, h⟩ | ⟨b476_26, h⟩
                        · obtain ⟨r476_3, cr476_3, h⟩ := bindS h
                          obtain ⟨r476_4, cr476_4, h⟩ := bindS h
                          obtain ⟨r476_5, cr476_5, h⟩ := bindS h
                          rcases iteS h with ⟨b476_34, h⟩ | ⟨b476_34, h⟩
                          · obtain ⟨r476_6, cr476_6, h⟩ := bindS h
                            obtain ⟨r476_7, cr476_7, h⟩ := bindS h
                            rcases iteS h with ⟨b476_39, h⟩ | ⟨b476_39, h⟩
                            · obtain ⟨r476_8, cr476_8, h⟩ := bindS h
                              have h := Option.some.inj h
                              subst h
                              exact At.fin hm ht ⟨[(2, .call [] [] (f32_filter_Match_out r476_0)), (6, .b true), (9, .call [] [] (f32_filter_Match_out r476_1)), (11, .b true), (16, .b true), (19, .call [] [] (f32_filter_Match_out r476_2)), (21, .b false), (26, .b true), (29, .call [] [] (f38_filter_Both_out r476_3)), (30, .call [] [] (f25_broughamlaw35_Plain_out r476_4)), (32, .call [] [] (f24_broughamref35_Same_out r476_5)), (34, .b true), (35, .call [] [(0, 0, .tree)] (f38_filter_Both_out r476_6)), (37, .call [] [] (f32_filter_Match_out r476_7)), (39, .b true), (40, .call [] [] (f23_broughamlaw35_alive_out r476_8))], [], [], [6], []⟩ [FnOK Tryd.prog 32 (f32_filter_Match_in (PT.node 8 0 r115_0 PT.nil) s_0 s_1 s_2 s_3 s_4 s_5 s_6) (f32_filter_Match_out r476_0), (r476_0 == (!r135_0)) = true, FnOK Tryd.prog 32 (f32_filter_Match_in (PT.node 10 0 r115_0 r115_1) s_0 s_1 s_2 s_3 s_4 s_5 s_6) (f32_filter_Match_out r476_1), r135_0 = true, (r476_1 == true) = true, FnOK Tryd.prog 32 (f32_filter_Match_in r216_0 s_0 s_1 s_2 s_3 s_4 s_5 s_6) (f32_filter_Match_out r476_2), r135_0 = false, (r476_2 == false) = true, FnOK Tryd.prog 38 (f38_filter_Both_in [r115_0]) (f38_filter_Both_out r476_3), FnOK Tryd.prog 25 (f25_broughamlaw35_Plain_in r476_3 20) (f25_broughamlaw35_Plain_out r476_4), FnOK Tryd.prog 24 (f24_broughamref35_Same_in r476_4.1 r476_4.2.1 r476_4.2.2 f_0 f_1 f_2) (f24_broughamref35_Same_out r476_5), r476_5 = true, FnOK Tryd.prog 38 (f38_filter_Both_in []) (f38_filter_Both_out r476_6), FnOK Tryd.prog 32 (f32_filter_Match_in r476_6 s_0 s_1 s_2 s_3 s_4 s_5 s_6) (f32_filter_Match_out r476_7), r476_7 = true, FnOK Tryd.prog 23 (f23_broughamlaw35_alive_in) (f23_broughamlaw35_alive_out r476_8)] (by kernel_rfl) ⟨(f32_filter_Match_ok n (PT.node 8 0 r115_0 PT.nil) s_0 s_1 s_2 s_3 s_4 s_5 s_6 r476_0 cr476_0), b476_6, (f32_filter_Match_ok n (PT.node 10 0 r115_0 r115_1) s_0 s_1 s_2 s_3 s_4 s_5 s_6 r476_1 cr476_1), b476_11, b476_16, (f32_filter_Match_ok n r216_0 s_0 s_1 s_2 s_3 s_4 s_5 s_6 r476_2 cr476_2), b476_21, b476_26, (f38_filter_Both_ok n [r115_0] r476_3 cr476_3), (f25_broughamlaw35_Plain_ok n r476_3 20 r476_4 cr476_4), (f24_broughamref35_Same_ok n r476_4.1 r476_4.2.1 r476_4.2.2 f_0 f_1 f_2 r476_5 cr476_5), b476_34, (f38_filter_Both_ok n [] r476_6 cr476_6), (f32_filter_Match_ok n r476_6 s_0 s_1 s_2 s_3 s_4 s_5 s_6 r476_7 cr476_7), b476_39, (f23_broughamlaw35_alive_ok n r476_8 cr476_8), trivial⟩
                            · have h := Option.some.inj h
                              subst h
                              exact At.fin hm ht ⟨[(2, .call [] [] (f32_filter_Match_out r476_0)), (6, .b true), (9, .call [] [] (f32_filter_Match_out r476_1)), (11, .b true), (16, .b true), (19, .call [] [] (f32_filter_Match_out r476_2)), (21, .b false), (26, .b true), (29, .call [] [] (f38_filter_Both_out r476_3)), (30, .call [] [] (f25_broughamlaw35_Plain_out r476_4)), (32, .call [] [] (f24_broughamref35_Same_out r476_5)), (34, .b true), (35, .call [] [(0, 0, .tree)] (f38_filter_Both_out r476_6)), (37, .call [] [] (f32_filter_Match_out r476_7)), (39, .b false)], [], [], [6], []⟩ [FnOK Tryd.prog 32 (f32_filter_Match_in (PT.node 8 0 r115_0 PT.nil) s_0 s_1 s_2 s_3 s_4 s_5 s_6) (f32_filter_Match_out r476_0), (r476_0 == (!r135_0)) = true, FnOK Tryd.prog 32 (f32_filter_Match_in (PT.node 10 0 r115_0 r115_1) s_0 s_1 s_2 s_3 s_4 s_5 s_6) (f32_filter_Match_out r476_1), r135_0 = true, (r476_1 == true) = true, FnOK Tryd.prog 32 (f32_filter_Match_in r216_0 s_0 s_1 s_2 s_3 s_4 s_5 s_6) (f32_filter_Match_out r476_2), r135_0 = false, (r476_2 == false) = true, FnOK Tryd.prog 38 (f38_filter_Both_in [r115_0]) (f38_filter_Both_out r476_3), FnOK Tryd.prog 25 (f25_broughamlaw35_Plain_in r476_3 20) (f25_broughamlaw35_Plain_out r476_4), FnOK Tryd.prog 24 (f24_broughamref35_Same_in r476_4.1 r476_4.2.1 r476_4.2.2 f_0 f_1 f_2) (f24_broughamref35_Same_out r476_5), r476_5 = true, FnOK Tryd.prog 38 (f38_filter_Both_in []) (f38_filter_Both_out r476_6), FnOK Tryd.prog 32 (f32_filter_Match_in r476_6 s_0 s_1 s_2 s_3 s_4 s_5 s_6) (f32_filter_Match_out r476_7), r476_7 = false] (by kernel_rfl) ⟨(f32_filter_Match_ok n (PT.node 8 0 r115_0 PT.nil) s_0 s_1 s_2 s_3 s_4 s_5 s_6 r476_0 cr476_0), b476_6, (f32_filter_Match_ok n (PT.node 10 0 r115_0 r115_1) s_0 s_1 s_2 s_3 s_4 s_5 s_6 r476_1 cr476_1), b476_11, b476_16, (f32_filter_Match_ok n r216_0 s_0 s_1 s_2 s_3 s_4 s_5 s_6 r476_2 cr476_2), b476_21, b476_26, (f38_filter_Both_ok n [r115_0] r476_3 cr476_3), (f25_broughamlaw35_Plain_ok n r476_3 20 r476_4 cr476_4), (f24_broughamref35_Same_ok n r476_4.1 r476_4.2.1 r476_4.2.2 f_0 f_1 f_2 r476_5 cr476_5), b476_34, (f38_filter_Both_ok n [] r476_6 cr476_6), (f32_filter_Match_ok n r476_6 s_0 s_1 s_2 s_3 s_4 s_5 s_6 r476_7 cr476_7), b476_39, trivial⟩
                          · have h := Option.some.inj h
                            subst h
                            exact At.fin hm ht ⟨[(2, .call [] [] (f32_filter_Match_out r476_0)), (6, .b true), (9, .call [] [] (f32_filter_Match_out r476_1)), (11, .b true), (16, .b true), (19, .call [] [] (f32_filter_Match_out r476_2)), (21, .b false), (26, .b true), (29, .call [] [] (f38_filter_Both_out r476_3)), (30, .call [] [] (f25_broughamlaw35_Plain_out r476_4)), (32, .call [] [] (f24_broughamref35_Same_out r476_5)), (34, .b false)], [], [], [6], []⟩ [FnOK Tryd.prog 32 (f32_filter_Match_in (PT.node 8 0 r115_0 PT.nil) s_0 s_1 s_2 s_3 s_4 s_5 s_6) (f32_filter_Match_out r476_0), (r476_0 == (!r135_0)) = true, FnOK Tryd.prog 32 (f32_filter_Match_in (PT.node 10 0 r115_0 r115_1) s_0 s_1 s_2 s_3 s_4 s_5 s_6) (f32_filter_Match_out r476_1), r135_0 = true, (r476_1 == true) = true, FnOK Tryd.prog 32 (f32_filter_Match_in r216_0 s_0 s_1 s_2 s_3 s_4 s_5 s_6) (f32_filter_Match_out r476_2), r135_0 = false, (r476_2 == false) = true, FnOK Tryd.prog 38 (f38_filter_Both_in [r115_0]) (f38_filter_Both_out r476_3), FnOK Tryd.prog 25 (f25_broughamlaw35_Plain_in r476_3 20) (f25_broughamlaw35_Plain_out r476_4), FnOK Tryd.prog 24 (f24_broughamref35_Same_in r476_4.1 r476_4.2.1 r476_4.2.2 f_0 f_1 f_2) (f24_broughamref35_Same_out r476_5), r476_5 = false] (by kernel_rfl) ⟨(f32_filter_Match_ok n (PT.node 8 0 r115_0 PT.nil) s_0 s_1 s_2 s_3 s_4 s_5 s_6 r476_0 cr476_0), b476_6, (f32_filter_Match_ok n (PT.node 10 0 r115_0 r115_1) s_0 s_1 s_2 s_3 s_4 s_5 s_6 r476_1 cr476_1), b476_11, b476_16, (f32_filter_Match_ok n r216_0 s_0 s_1 s_2 s_3 s_4 s_5 s_6 r476_2 cr476_2), b476_21, b476_26, (f38_filter_Both_ok n [r115_0] r476_3 cr476_3), (f25_broughamlaw35_Plain_ok n r476_3 20 r476_4 cr476_4), (f24_broughamref35_Same_ok n r476_4.1 r476_4.2.1 r476_4.2.2 f_0 f_1 f_2 r476_5 cr476_5), b476_34, trivial⟩
                        · have h := Option.some.inj h
                          subst h
                          exact At.fin hm ht ⟨[(2, .call [] [] (f32_filter_Match_out r476_0)), (6, .b true), (9, .call [] [] (f32_filter_Match_out r476_1)), (11, .b true), (16, .b true), (19, .call [] [] (f32_filter_Match_out r476_2)), (21, .b false), (26, .b false)], [], [], [6], []⟩ [FnOK Tryd.prog 32 (f32_filter_Match_in (PT.node 8 0 r115_0 PT.nil) s_0 s_1 s_2 s_3 s_4 s_5 s_6) (f32_filter_Match_out r476_0), (r476_0 == (!r135_0)) = true, FnOK Tryd.prog 32 (f32_filter_Match_in (PT.node 10 0 r115_0 r115_1) s_0 s_1 s_2 s_3 s_4 s_5 s_6) (f32_filter_Match_out r476_1), r135_0 = true, (r476_1 == true) = true, FnOK Tryd.prog 32 (f32_filter_Match_in r216_0 s_0 s_1 s_2 s_3 s_4 s_5 s_6) (f32_filter_Match_out r476_2), r135_0 = false, (r476_2 == false) = false] (by kernel_rfl) ⟨(f32_filter_Match_ok n (PT.node 8 0 r115_0 PT.nil) s_0 s_1 s_2 s_3 s_4 s_5 s_6 r476_0 cr476_0), b476_6, (f32_filter_Match_ok n (PT.node 10 0 r115_0 r115_1) s_0 s_1 s_2 s_3 s_4 s_5 s_6 r476_1 cr476_1), b476_11, b476_16, (f32_filter_Match_ok n r216_0 s_0 s_1 s_2 s_3 s_4 s_5 s_6 r476_2 cr476_2), b476_21, b476_26, trivial⟩
                    · have h := Option.some.inj h
                      subst h
                      exact At.fin hm ht ⟨[(2, .call [] [] (f32_filter_Match_out r476_0)), (6, .b true), (9, .call [] [] (f32_filter_Match_out r476_1)), (11, .b true), (16, .b false)], [], [], [6], []⟩ [FnOK Tryd.prog 32 (f32_filter_Match_in (PT.node 8 0 r115_0 PT.nil) s_0 s_1 s_2 s_3 s_4 s_5 s_6) (f32_filter_Match_out r476_0), (r476_0 == (!r135_0)) = true, FnOK Tryd.prog 32 (f32_filter_Match_in (PT.node 10 0 r115_0 r115_1) s_0 s_1 s_2 s_3 s_4 s_5 s_6) (f32_filter_Match_out r476_1), r135_0 = true, (r476_1 == true) = false] (by kernel_rfl) ⟨(f32_filter_Match_ok n (PT.node 8 0 r115_0 PT.nil) s_0 s_1 s_2 s_3 s_4 s_5 s_6 r476_0 cr476_0), b476_6, (f32_filter_Match_ok n (PT.node 10 0 r115_0 r115_1) s_0 s_1 s_2 s_3 s_4 s_5 s_6 r476_1 cr476_1), b476_11, b476_16, trivial⟩
                  · rcases iteS h with ⟨b476_16, h⟩ | ⟨b476_16, h⟩
                    · obtain ⟨r476_2, cr476_2, h⟩ := bindS h
                      rcases iteS h with ⟨b476_21, h⟩ | ⟨b476_21, h⟩
                      · rcases iteS h with ⟨b476_26, h⟩ | ⟨b476_26, h⟩
                        · obtain ⟨r476_3, cr476_3, h⟩ := bindS h
                          obtain ⟨r476_4, cr476_4, h⟩ := bindS h
                          obtain ⟨r476_5, cr476_5, h⟩ := bindS h
                          rcases iteS h with ⟨b476_34, h⟩ | ⟨b476_34, h⟩
                          · obtain ⟨r476_6, cr476_6, h⟩ := bindS h
                            obtain ⟨r476_7, cr476_7, h⟩ := bindS h
                            rcases iteS h with ⟨b476_39, h⟩ | ⟨b476_39, h⟩
                            · obtain ⟨r476_8, cr476_8, h⟩ := bindS h
                              have h := Option.some.inj h
                              subst h
                              exact At.fin hm ht ⟨[(2, .call [] [] (f32_filter_Match_out r476_0)), (6, .b true), (9, .call [] [] (f32_filter_Match_out r476_1)), (11, .b false), (16, .b true), (19, .call [] [] (f32_filter_Match_out r476_2)), (21, .b true), (26, .b true), (29, .call [] [] (f38_filter_Both_out r476_3)), (30, .call [] [] (f25_broughamlaw35_Plain_out r476_4)), (32, .call [] [] (f24_broughamref35_Same_out r476_5)), (34, .b true), (35, .call [] [(0, 0, .tree)] (f38_filter_Both_out r476_6)), (37, .call [] [] (f32_filter_Match_out r476_7)), (39, .b true), (40, .call [] [] (f23_broughamlaw35_alive_out r476_8))], [], [], [6], []⟩ [FnOK Tryd.prog 32 (f32_filter_Match_in (PT.node 8 0 r115_0 PT.nil) s_0 s_1 s_2 s_3 s_4 s_5 s_6) (f32_filter_Match_out r476_0), (r476_0 == (!r135_0)) = true, FnOK Tryd.prog 32 (f32_filter_Match_in (PT.node 10 0 r115_0 r115_1) s_0 s_1 s_2 s_3 s_4 s_5 s_6) (f32_filter_Match_out r476_1), r135_0 = false, (r476_1 == r135_1) = true, FnOK Tryd.prog 32 (f32_filter_Match_in r216_0 s_0 s_1 s_2 s_3 s_4 s_5 s_6) (f32_filter_Match_out r476_2), r135_0 = true, (r476_2 == r135_1) = true, FnOK Tryd.prog 38 (f38_filter_Both_in [r115_0]) (f38_filter_Both_out r476_3), FnOK Tryd.prog 25 (f25_broughamlaw35_Plain_in r476_3 20) (f25_broughamlaw35_Plain_out r476_4), FnOK Tryd.prog 24 (f24_broughamref35_Same_in r476_4.1 r476_4.2.1 r476_4.2.2 f_0 f_1 f_2) (f24_broughamref35_Same_out r476_5), r476_5 = true, FnOK Tryd.prog 38 (f38_filter_Both_in []) (f38_filter_Both_out r476_6), FnOK Tryd.prog 32 (f32_filter_Match_in r476_6 s_0 s_1 s_2 s_3 s_4 s_5 s_6) (f32_filter_Match_out r476_7), r476_7 = true, FnOK Tryd.prog 23 (f23_broughamlaw35_alive_in) (f23_broughamlaw35_alive_out r476_8)] (by kernel_rfl) ⟨(f32_filter_Match_ok n (PT.node 8 0 r115_0 PT.nil) s_0 s_1 s_2 s_3 s_4 s_5 s_6 r476_0 cr476_0), b476_6, (f32_filter_Match_ok n (PT.node 10 0 r115_0 r115_1) s_0 s_1 s_2 s_3 s_4 s_5 s_6 r476_1 cr476_1), b476_11, b476_16, (f32_filter_Match_ok n r216_0 s_0 s_1 s_2 s_3 s_4 s_5 s_6 r476_2 cr476_2), b476_21, b476_26, (f38_filter_Both_ok n [r115_0] r476_3 cr476_3), (f25_broughamlaw35_Plain_ok n r476_3 20 r476_4 cr476_4), (f24_broughamref35_Same_ok n r476_4.1 r476_4.2.1 r476_4.2.2 f_0 f_1 f_2 r476_5 cr476_5), b476_34, (f38_filter_Both_ok n [] r476_6 cr476_6), (f32_filter_Match_ok n r476_6 s_0 s_1 s_2 s_3 s_4 s_5 s_6 r476_7 cr476_7), b476_39, (f23_broughamlaw35_alive_ok n r476_8 cr476_8), trivial⟩
                            · have h := Option.some.inj h
                              subst h
                              exact At.fin hm ht ⟨[(2, .call [] [] (f32_filter_Match_out r476_0)), (6, .b true), (9, .call [] [] (f32_filter_Match_out r476_1)), (11, .b false), (16, .b true), (19, .call [] [] (f32_filter_Match_out r476_2)), (21, .b true), (26, .b true), (29, .call [] [] (f38_filter_Both_out r476_3)), (30, .call [] [] (f25_broughamlaw35_Plain_out r476_4)), (32, .call [] [] (f24_broughamref35_Same_out r476_5)), (34, .b true), (35, .call [] [(0, 0, .tree)] (f38_filter_Both_out r476_6)), (37, .call [] [] (f32_filter_Match_out r476_7)), (39, .b false)], [], [], [6], []⟩ [FnOK Tryd.prog 32 (f32_filter_Match_in (PT.node 8 0 r115_0 PT.nil) s_0 s_1 s_2 s_3 s_4 s_5 s_6) (f32_filter_Match_out r476_0), (r476_0 == (!r135_0)) = true, FnOK Tryd.prog 32 (f32_filter_Match_in (PT.node 10 0 r115_0 r115_1) s_0 s_1 s_2 s_3 s_4 s_5 s_6) (f32_filter_Match_out r476_1), r135_0 = false, (r476_1 == r135_1) = true, FnOK Tryd.prog 32 (f32_filter_Match_in r216_0 s_0 s_1 s_2 s_3 s_4 s_5 s_6) (f32_filter_Match_out r476_2), r135_0 = true, (r476_2 == r135_1) = true, FnOK Tryd.prog 38 (f38_filter_Both_in [r115_0]) (f38_filter_Both_out r476_3), FnOK Tryd.prog 25 (f25_broughamlaw35_Plain_in r476_3 20) (f25_broughamlaw35_Plain_out r476_4), FnOK Tryd.prog 24 (f24_broughamref35_Same_in r476_4.1 r476_4.2.1 r476_4.2.2 f_0 f_1 f_2) (f24_broughamref35_Same_out r476_5), r476_5 = true, FnOK Tryd.prog 38 (f38_filter_Both_in []) (f38_filter_Both_out r476_6), FnOK Tryd.prog 32 (f32_filter_Match_in r476_6 s_0 s_1 s_2 s_3 s_4 s_5 s_6) (f32_filter_Match_out r476_7), r476_7 = false] (by kernel_rfl) ⟨(f32_filter_Match_ok n (PT.node 8 0 r115_0 PT.nil) s_0 s_1 s_2 s_3 s_4 s_5 s_6 r476_0 cr476_0), b476_6, (f32_filter_Match_ok n (PT.node 10 0 r115_0 r115_1) s_0 s_1 s_2 s_3 s_4 s_5 s_6 r476_1 cr476_1), b476_11, b476_16, (f32_filter_Match_ok n r216_0 s_0 s_1 s_2 s_3 s_4 s_5 s_6 r476_2 cr476_2), b476_21, b476_26, (f38_filter_Both_ok n [r115_0] r476_3 cr476_3), (f25_broughamlaw35_Plain_ok n r476_3 20 r476_4 cr476_4), (f24_broughamref35_Same_ok n r476_4.1 r476_4.2.1 r476_4.2.2 f_0 f_1 f_2 r476_5 cr476_5), b476_34, (f38_filter_Both_ok n [] r476_6 cr476_6), (f32_filter_Match_ok n r476_6 s_0 s_1 s_2 s_3 s_4 s_5 s_6 r476_7 cr476_7), b476_39, trivial⟩
                          · have h := Option.some.inj h
                            subst h
                            exact At.fin hm ht ⟨[(2, .call [] [] (f32_filter_Match_out r476_0)), (6, .b true), (9, .call [] [] (f32_filter_Match_out r476_1)), (11, .b false), (16, .b true), (19, .call [] [] (f32_filter_Match_out r476_2)), (21, .b true), (26, .b true), (29, .call [] [] (f38_filter_Both_out r476_3)), (30, .call [] [] (f25_broughamlaw35_Plain_out r476_4)), (32, .call [] [] (f24_broughamref35_Same_out r476_5)), (34, .b false)], [], [], [6], []⟩ [FnOK Tryd.prog 32 (f32_filter_Match_in (PT.node 8 0 r115_0 PT.nil) s_0 s_1 s_2 s_3 s_4 s_5 s_6) (f32_filter_Match_out r476_0), (r476_0 == (!r135_0)) = true, FnOK Tryd.prog 32 (f32_filter_Match_in (PT.node 10 0 r115_0 r115_1) s_0 s_1 s_2 s_3 s_4 s_5 s_6) (f32_filter_Match_out r476_1), r135_0 = false, (r476_1 == r135_1) = true, FnOK Tryd.prog 32 (f32_filter_Match_in r216_0 s_0 s_1 s_2 s_3 s_4 s_5 s_6) (f32_filter_Match_out r476_2), r135_0 = true, (r476_2 == r135_1) = true, FnOK Tryd.prog 38 (f38_filter_Both_in [r115_0]) (f38_filter_Both_out r476_3), FnOK Tryd.prog 25 (f25_broughamlaw35_Plain_in r476_3 20) (f25_broughamlaw35_Plain_out r476_4), FnOK Tryd.prog 24 (f24_broughamref35_Same_in r476_4.1 r476_4.2.1 r476_4.2.2 f_0 f_1 f_2) (f24_broughamref35_Same_out r476_5), r476_5 = false] (by kernel_rfl) ⟨(f32_filter_Match_ok n (PT.node 8 0 r115_0 PT.nil) s_0 s_1 s_2 s_3 s_4 s_5 s_6 r476_0 cr476_0), b476_6, (f32_filter_Match_ok n (PT.node 10 0 r115_0 r115_1) s_0 s_1 s_2 s_3 s_4 s_5 s_6 r476_1 cr476_1), b476_11, b476_16, (f32_filter_Match_ok n r216_0 s_0 s_1 s_2 s_3 s_4 s_5 s_6 r476_2 cr476_2), b476_21, b476_26, (f38_filter_Both_ok n [r115_0] r476_3 cr476_3), (f25_broughamlaw35_Plain_ok n r476_3 20 r476_4 cr476_4), (f24_broughamref35_Same_ok n r476_4.1 r476_4.2.1 r476_4.2.2 f_0 f_1 f_2 r476_5 cr476_5), b476_34, trivial⟩
                        · have h := Option.some.inj h
                          subst h
                          exact At.fin hm ht ⟨[(2, .call [] [] (f32_filter_Match_out r476_0)), (6, .b true), (9, .call [] [] (f32_filter_Match_out r476_1)), (11, .b false), (16, .b true), (19, .call [] [] (f32_filter_Match_out r476_2)), (21, .b true), (26, .b false)], [], [], [6], []⟩ [FnOK Tryd.prog 32 (f32_filter_Match_in (PT.node 8 0 r115_0 PT.nil) s_0 s_1 s_2 s_3 s_4 s_5 s_6) (f32_filter_Match_out r476_0), (r476_0 == (!r135_0)) = true, FnOK Tryd.prog 32 (f32_filter_Match_in (PT.node 10 0 r115_0 r115_1) s_0 s_1 s_2 s_3 s_4 s_5 s_6) (f32_filter_Match_out r476_1), r135_0 = false, (r476_1 == r135_1) = true, FnOK Tryd.prog 32 (f32_filter_Match_in r216_0 s_0 s_1 s_2 s_3 s_4 s_5 s_6) (f32_filter_Match_out r476_2), r135_0 = true, (r476_2 == r135_1) = false] (by kernel_rfl) ⟨(f32_filter_Match_ok n (PT.node 8 0 r115_0 PT.nil) s_0 s_1 s_2 s_3 s_4 s_5 s_6 r476_0 cr476_0), b476_6, (f32_filter_Match_ok n (PT.node 10 0 r115_0 r115_1) s_0 s_1 s_2 s_3 s_4 s_5 s_6 r476_1 cr476_1), b476_11, b476_16, (f32_filter_Match_ok n r216_0 s_0 s_1 s_2 s_3 s_4 s_5 s_6 r476_2 cr476_2), b476_21, b476_26, trivial⟩
                      · rcases iteS h with ⟨b476_26, h⟩ | ⟨b476_26, h⟩
                        · obtain ⟨r476_3, cr476_3, h⟩ := bindS h
                          obtain ⟨r476_4, cr476_4, h⟩ := bindS h
                          obtain ⟨r476_5, cr476_5, h⟩ := bindS h
                          rcases iteS h with ⟨b476_34, h⟩ | ⟨b476_34, h⟩
                          · obtain ⟨r476_6, cr476_6, h⟩ := bindS h
                            obtain ⟨r476_7, cr476_7, h⟩ := bindS h
                            rcases iteS h with ⟨b476_39, h⟩ | ⟨b476_39, h⟩
                            · obtain ⟨r476_8, cr476_8, h⟩ := bindS h
                              have h := Option.some.inj h
                              subst h
                              exact At.fin hm ht ⟨[(2, .call [] [] (f32_filter_Match_out r476_0)), (6, .b true), (9, .call [] [] (f32_filter_Match_out r476_1)), (11, .b false), (16, .b true), (19, .call [] [] (f32_filter_Match_out r476_2)), (21, .b false), (26, .b true), (29, .call [] [] (f38_filter_Both_out r476_3)), (30, .call [] [] (f25_broughamlaw35_Plain_out r476_4)), (32, .call [] [] (f24_broughamref35_Same_out r476_5)), (34, .b true), (35, .call [] [(0, 0, .tree)] (f38_filter_Both_out r476_6)), (37, .call [] [] (f32_filter_Match_out r476_7)), (39, .b true), (40, .call [] [] (f23_broughamlaw35_alive_out r476_8))], [], [], [6], []⟩ [FnOK Tryd.prog 32 (f32_filter_Match_in (PT.node 8 0 r115_0 PT.nil) s_0 s_1 s_2 s_3 s_4 s_5 s_6) (f32_filter_Match_out r476_0), (r476_0 == (!r135_0)) = true, FnOK Tryd.prog 32 (f32_filter_Match_in (PT.node 10 0 r115_0 r115_1) s_0 s_1 s_2 s_3 s_4 s_5 s_6) (f32_filter_Match_out r476_1), r135_0 = false, (r476_1 == r135_1) = true, FnOK Tryd.prog 32 (f32_filter_Match_in r216_0 s_0 s_1 s_2 s_3 s_4 s_5 s_6) (f32_filter_Match_out r476_2), r135_0 = false, (r476_2 == false) = true, FnOK Tryd.prog 38 (f38_filter_Both_in [r115_0]) (f38_filter_Both_out r476_3), FnOK Tryd.prog 25 (f25_broughamlaw35_Plain_in r476_3 20) (f25_broughamlaw35_Plain_out r476_4), FnOK Tryd.prog 24 (f24_broughamref35_Same_in r476_4.1 r476_4.2.1 r476_4.2.2 f_0 f_1 f_2) (f24_broughamref35_Same_out r476_5), r476_5 = true, FnOK Tryd.prog 38 (f38_filter_Both_in []) (f38_filter_Both_out r476_6), FnOK Tryd.prog 32 (f32_filter_Match_in r476_6 s_0 s_1 s_2 s_3 s_4 s_5 s_6) (f32_filter_Match_out r476_7), r476_7 = true, FnOK Tryd.prog 23 (f23_broughamlaw35_alive_in) (f23_broughamlaw35_alive_out r476_8)] (by kernel_rfl) ⟨(f32_filter_Match_ok n (PT.node 8 0 r115_0 PT.nil) s_0 s_1 s_2 s_3 s_4 s_5 s_6 r476_0 cr476_0), b476_6, (f32_filter_Match_ok n (PT.node 10 0 r115_0 r115_1) s_0 s_1 s_2 s_3 s_4 s_5 s_6 r476_1 cr476_1), b476_11, b476_16, (f32_filter_Match_ok n r216_0 s_0 s_1 s_2 s_3 s_4 s_5 s_6 r476_2 cr476_2), b476_21, b476_26, (f38_filter_Both_ok n [r115_0] r476_3 cr476_3), (f25_broughamlaw35_Plain_ok n r476_3 20 r476_4 cr476_4), (f24_broughamref35_Same_ok n r476_4.1 r476_4.2.1 r476_4.2.2 f_0 f_1 f_2 r476_5 cr476_5), b476_34, (f38_filter_Both_ok n [] r476_6 cr476_6), (f32_filter_Match_ok n r476_6 s_0 s_1 s_2 s_3 s_4 s_5 s_6 r476_7 cr476_7), b476_39, (f23_broughamlaw35_alive_ok n r476_8 cr476_8), trivial⟩
                            · have h := Option.some.inj h
                              subst h
                              exact At.fin hm ht ⟨[(2, .call [] [] (f32_filter_Match_out r476_0)), (6, .b true), (9, .call [] [] (f32_filter_Match_out r476_1)), (11, .b false), (16, .b true), (19, .call [] [] (f32_filter_Match_out r476_2)), (21, .b false), (26, .b true), (29, .call [] [] (f38_filter_Both_out r476_3)), (30, .call [] [] (f25_broughamlaw35_Plain_out r476_4)), (32, .call [] [] (f24_broughamref35_Same_out r476_5)), (34, .b true), (35, .call [] [(0, 0, .tree)] (f38_filter_Both_out r476_6)), (37, .call [] [] (f32_filter_Match_out r476_7)), (39, .b false)], [], [], [6], []⟩ [FnOK Tryd.prog 32 (f32_filter_Match_in (PT.node 8 0 r115_0 PT.nil) s_0 s_1 s_2 s_3 s_4 s_5 s_6) (f32_filter_Match_out r476_0), (r476_0 == (!r135_0)) = true, FnOK Tryd.prog 32 (f32_filter_Match_in (PT.node 10 0 r115_0 r115_1) s_0 s_1 s_2 s_3 s_4 s_5 s_6) (f32_filter_Match_out r476_1), r135_0 = false, (r476_1 == r135_1) = true, FnOK Tryd.prog 32 (f32_filter_Match_in r216_0 s_0 s_1 s_2 s_3 s_4 s_5 s_6) (f32_filter_Match_out r476_2), r135_0 = false, (r476_2 == false) = true, FnOK Tryd.prog 38 (f38_filter_Both_in [r115_0]) (f38_filter_Both_out r476_3), FnOK Tryd.prog 25 (f25_broughamlaw35_Plain_in r476_3 20) (f25_broughamlaw35_Plain_out r476_4), FnOK Tryd.prog 24 (f24_broughamref35_Same_in r476_4.1 r476_4.2.1 r476_4.2.2 f_0 f_1 f_2) (f24_broughamref35_Same_out r476_5), r476_5 = true, FnOK Tryd.prog 38 (f38_filter_Both_in []) (f38_filter_Both_out r476_6), FnOK Tryd.prog 32 (f32_filter_Match_in r476_6 s_0 s_1 s_2 s_3 s_4 s_5 s_6) (f32_filter_Match_out r476_7), r476_7 = false] (by kernel_rfl) ⟨(f32_filter_Match_ok n (PT.node 8 0 r115_0 PT.nil) s_0 s_1 s_2 s_3 s_4 s_5 s_6 r476_0 cr476_0), b476_6, (f32_filter_Match_ok n (PT.node 10 0 r115_0 r115_1) s_0 s_1 s_2 s_3 s_4 s_5 s_6 r476_1 cr476_1), b476_11, b476_16, (f32_filter_Match_ok n r216_0 s_0 s_1 s_2 s_3 s_4 s_5 s_6 r476_2 cr476_2), b476_21, b476_26, (f38_filter_Both_ok n [r115_0] r476_3 cr476_3), (f25_broughamlaw35_Plain_ok n r476_3 20 r476_4 cr476_4), (f24_broughamref35_Same_ok n r476_4.1 r476_4.2.1 r476_4.2.2 f_0 f_1 f_2 r476_5 cr476_5), b476_34, (f38_filter_Both_ok n [] r476_6 cr476_6), (f32_filter_Match_ok n r476_6 s_0 s_1 s_2 s_3 s_4 s_5 s_6 r476_7 cr476_7), b476_39, trivial⟩
                          · have h := Option.some.inj h
                            subst h
                            exact At.fin hm ht ⟨[(2, .call [] [] (f32_filter_Match_out r476_0)), (6, .b true), (9, .call [] [] (f32_filter_Match_out r476_1)), (11, .b false), (16, .b true), (19, .call [] [] (f32_filter_Match_out r476_2)), (21, .b false), (26, .b true), (29, .call [] [] (f38_filter_Both_out r476_3)), (30, .call [] [] (f25_broughamlaw35_Plain_out r476_4)), (32, .call [] [] (f24_broughamref35_Same_out r476_5)), (34, .b false)], [], [], [6], []⟩ [FnOK Tryd.prog 32 (f32_filter_Match_in (PT.node 8 0 r115_0 PT.nil) s_0 s_1 s_2 s_3 s_4 s_5 s_6) (f32_filter_Match_out r476_0), (r476_0 == (!r135_0)) = true, FnOK Tryd.prog 32 (f32_filter_Match_in (PT.node 10 0 r115_0 r115_1) s_0 s_1 s_2 s_3 s_4 s_5 s_6) (f32_filter_Match_out r476_1), r135_0 = false, (r476_1 == r135_1) = true, FnOK Tryd.prog 32 (f32_filter_Match_in r216_0 s_0 s_1 s_2 s_3 s_4 s_5 s_6) (f32_filter_Match_out r476_2), r135_0 = false, (r476_2 == false) = true, FnOK Tryd.prog 38 (f38_filter_Both_in [r115_0]) (f38_filter_Both_out r476_3), FnOK Tryd.prog 25 (f25_broughamlaw35_Plain_in r476_3 20) (f25_broughamlaw35_Plain_out r476_4), FnOK Tryd.prog 24 (f24_broughamref35_Same_in r476_4.1 r476_4.2.1 r476_4.2.2 f_0 f_1 f_2) (f24_broughamref35_Same_out r476_5), r476_5 = false] (by kernel_rfl) ⟨(f32_filter_Match_ok n (PT.node 8 0 r115_0 PT.nil) s_0 s_1 s_2 s_3 s_4 s_5 s_6 r476_0 cr476_0), b476_6, (f32_filter_Match_ok n (PT.node 10 0 r115_0 r115_1) s_0 s_1 s_2 s_3 s_4 s_5 s_6 r476_1 cr476_1), b476_11, b476_16, (f32_filter_Match_ok n r216_0 s_0 s_1 s_2 s_3 s_4 s_5 s_6 r476_2 cr476_2), b476_21, b476_26, (f38_filter_Both_ok n [r115_0] r476_3 cr476_3), (f25_broughamlaw35_Plain_ok n r476_3 20 r476_4 cr476_4), (f24_broughamref35_Same_ok n r476_4.1 r476_4.2.1 r476_4.2.2 f_0 f_1 f_2 r476_5 cr476_5), b476_34, trivial⟩
                        · have h := Option.some.inj h
                          subst h
                          exact At.fin hm ht ⟨[(2, .call [] [] (f32_filter_Match_out r476_0)), (6, .b true), (9, .call [] [] (f32_filter_Match_out r476_1)), (11, .b false), (16, .b true), (19, .call [] [] (f32_filter_Match_out r476_2)), (21, .b false), (26, .b false)], [], [], [6], []⟩ [FnOK Tryd.prog 32 (f32_filter_Match_in (PT.node 8 0 r115_0 PT.nil) s_0 s_1 s_2 s_3 s_4 s_5 s_6) (f32_filter_Match_out r476_0), (r476_0 == (!r135_0)) = true, FnOK Tryd.prog 32 (f32_filter_Match_in (PT.node 10 0 r115_0 r115_1) s_0 s_1 s_2 s_3 s_4 s_5 s_6) (f32_filter_Match_out r476_1), r135_0 = false, (r476_1 == r135_1) = true, FnOK Tryd.prog 32 (f32_filter_Match_in r216_0 s_0 s_1 s_2 s_3 s_4 s_5 s_6) (f32_filter_Match_out r476_2), r135_0 = false, (r476_2 == false) = false] (by kernel_rfl) ⟨(f32_filter_Match_ok n (PT.node 8 0 r115_0 PT.nil) s_0 s_1 s_2 s_3 s_4 s_5 s_6 r476_0 cr476_0), b476_6, (f32_filter_Match_ok n (PT.node 10 0 r115_0 r115_1) s_0 s_1 s_2 s_3 s_4 s_5 s_6 r476_1 cr476_1), b476_11, b476_16, (f32_filter_Match_ok n r216_0 s_0 s_1 s_2 s_3 s_4 s_5 s_6 r476_2 cr476_2), b476_21, b476_26, trivial⟩
                    · have h := Option.some.inj h
                      subst h
                      exact At.fin hm ht ⟨[(2, .call [] [] (f32_filter_Match_out r476_0)), (6, .b true), (9, .call [] [] (f32_filter_Match_out r476_1)), (11, .b false), (16, .b false)], [], [], [6], []⟩ [FnOK Tryd.prog 32 (f32_filter_Match_in (PT.node 8 0 r115_0 PT.nil) s_0 s_1 s_2 s_3 s_4 s_5 s_6) (f32_filter_Match_out r476_0), (r476_0 == (!r135_0)) = true, FnOK Tryd.prog 32 (f32_filter_Match_in (PT.node 10 0 r115_0 r115_1) s_0 s_1 s_2 s_3 s_4 s_5 s_6) (f32_filter_Match_out r476_1), r135_0 = false, (r476_1 == r135_1) = false] (by kernel_rfl) ⟨(f32_filter_Match_ok n (PT.node 8 0 r115_0 PT.nil) s_0 s_1 s_2 s_3 s_4 s_5 s_6 r476_0 cr476_0), b476_6, (f32_filter_Match_ok n (PT.node 10 0 r115_0 r115_1) s_0 s_1 s_2 s_3 s_4 s_5 s_6 r476_1 cr476_1), b476_11, b476_16, trivial⟩
                · have h := Option.some.inj h
                  subst h
                  exact At.fin hm ht ⟨[(2, .call [] [] (f32_filter_Match_out r476_0)), (6, .b false)], [], [], [6], []⟩ [FnOK Tryd.prog 32 (f32_filter_Match_in (PT.node 8 0 r115_0 PT.nil) s_0 s_1 s_2 s_3 s_4 s_5 s_6) (f32_filter_Match_out r476_0), (r476_0 == (!r135_0)) = false] (by kernel_rfl) ⟨(f32_filter_Match_ok n (PT.node 8 0 r115_0 PT.nil) s_0 s_1 s_2 s_3 s_4 s_5 s_6 r476_0 cr476_0), b476_6, trivial⟩
end Go.Proofs.YtakamchmiakicaaDoorF35d
