/- What the functions compute, and that they do: printed by a program of this session (zgen.py), proved by Zed. -/
import Derived.Test.YtddglebabaaghaaF08x0
namespace Go.Proofs.YtddglebabaaghaaF08
open Go Zed
set_option maxRecDepth 100000
set_option linter.unusedVariables false
/-! brougham/broughamlaw08.OptReads -/
def f5_broughamlaw08_OptReads_in (o__0 : Int) (o__1 : List Int) : Inn := ⟨[.agg [.d (.int .u8 o__0), .d (.sl (.int .u8) o__1)]], [], [], 0⟩
def f5_broughamlaw08_OptReads_out (r : Bool) : Out := ⟨.one (.c (.d (.bool r))), [], [], 0⟩
def f5_broughamlaw08_OptReads (n : Nat) (o__0 : Int) (o__1 : List Int) : Option (Bool) :=
  if (decide ((((o__1.length : Nat) : Int) : Int) > 300)) = true then
    some true
  else
    (f32_opt_ParseKey n o__0 o__1).bind fun r327_0 =>
    (f33_broughamref08_ParseKey n o__0 o__1).bind fun r328_0 =>
    if (!(r327_0.1 == r328_0.2.2.2)) = true then
      some false
    else
      if ((r327_0.2.1 : Int) != r328_0.1) = true then
        some false
      else
        if ((r327_0.2.2.2 : Int) != r328_0.2.1) = true then
          some false
        else
          if (!(r327_0.2.2.1 == r328_0.2.2.1)) = true then
            some false
          else
            (f34_opt_ParseJoin n o__0 o__1).bind fun r370_0 =>
            (f35_broughamref08_ParseJoin n o__0 o__1).bind fun r385_0 =>
            if (!(r370_0.1 == r385_0.1)) = true then
              some false
            else
              (f25_broughamlaw08_join r370_0.2.1 r370_0.2.2.1 r370_0.2.2.2.1 r370_0.2.2.2.2.1 r370_0.2.2.2.2.2.1 r370_0.2.2.2.2.2.2).bind fun r437_0 =>
              if (!(((r437_0.1 : Int) == r385_0.2.1) && (((r437_0.2.1 : Int) == r385_0.2.2.1) && (((r437_0.2.2.1 : Int) == r385_0.2.2.2.1) && ((r437_0.2.2.2.1 == r385_0.2.2.2.2.1) && ((r437_0.2.2.2.2.1 == r385_0.2.2.2.2.2.1) && ((r437_0.2.2.2.2.2 : Int) == r385_0.2.2.2.2.2.2))))))) = true then
                some false
              else
                (f36_opt_ParseData n o__0 o__1).bind fun r440_0 =>
                (f37_broughamref08_ParseData n o__0 o__1).bind fun r448_0 =>
                if (!(r440_0.1 == r448_0.1)) = true then
                  some false
                else
                  (f28_broughamlaw08_data r440_0.2.1 r440_0.2.2.1 r440_0.2.2.2.1 r440_0.2.2.2.2.1 r440_0.2.2.2.2.2.1 r440_0.2.2.2.2.2.2).bind fun r457_0 =>
                  if (!((r457_0.1 == r448_0.2.1) && ((r457_0.2.1 == r448_0.2.2.1) && (((r457_0.2.2.1 : Int) == r448_0.2.2.2.1) && (((r457_0.2.2.2.1 : Int) == r448_0.2.2.2.2.1) && (((r457_0.2.2.2.2.1 : Int) == r448_0.2.2.2.2.2.1) && ((r457_0.2.2.2.2.2 : Int) == r448_0.2.2.2.2.2.2))))))) = true then
                    some false
                  else
                    (f38_opt_ParseWord n o__0 o__1).bind fun r460_0 =>
                    (f39_broughamref08_ParseWord n o__0 o__1).bind fun r469_0 =>
                    if (r460_0.1 == r469_0.1) = true then
                      (f31_broughamlaw08_word r460_0.2.1 r460_0.2.2.1 r460_0.2.2.2.1 r460_0.2.2.2.2.1 r460_0.2.2.2.2.2.1 r460_0.2.2.2.2.2.2).bind fun r479_0 =>
                      if (((r479_0.1 : Int) == r469_0.2.1) && (((r479_0.2.1 : Int) == r469_0.2.2.1) && (((r479_0.2.2.1 : Int) == r469_0.2.2.2.1) && ((r479_0.2.2.2.1 == r469_0.2.2.2.2.1) && ((r479_0.2.2.2.2 : Int) == r469_0.2.2.2.2.2))))) = true then
                        if (!r460_0.1) = true then
                          if r460_0.1 = true then
                            (f19_broughamlaw08_alive n).bind fun r479_1 =>
                            some r479_1
                          else
                            if ((r460_0.2.1 : Int) == 0) = true then
                              (f19_broughamlaw08_alive n).bind fun r479_1 =>
                              some r479_1
                            else
                              some false
                        else
                          if ((r460_0.2.1 : Int) == o__0) = true then
                            if r460_0.1 = true then
                              (f19_broughamlaw08_alive n).bind fun r479_1 =>
                              some r479_1
                            else
                              if ((r460_0.2.1 : Int) == 0) = true then
                                (f19_broughamlaw08_alive n).bind fun r479_1 =>
                                some r479_1
                              else
                                some false
                          else
                            some false
                      else
                        some false
                    else
                      some false
theorem f5_broughamlaw08_OptReads_ok (n : Nat) (o__0 : Int) (o__1 : List Int) (r : Bool) (h : f5_broughamlaw08_OptReads n o__0 o__1 = some r) : FnOK Go.Proofs.Try.prog 5 (f5_broughamlaw08_OptReads_in o__0 o__1) (f5_broughamlaw08_OptReads_out r) := by
  unfold f5_broughamlaw08_OptReads at h
  refine At.fn (r := 0) Go.Proofs.Try.func5 rfl (by kernel_rfl) rfl rfl (by kernel_rfl) ?_
  show At Go.Proofs.Try.prog Go.Proofs.Try.f5 0 0 ⟨[(0, .one (.agg [.d (.int .u8 o__0), .d (.sl (.int .u8) o__1)]))], [], [], 0⟩ _
  refine At.step hm ht ⟨[], [], [], [1], [0]⟩ 1 ⟨[(1, .one (.c (.ptr 0 0)))], [], [(0, [.d (.int .u8 o__0), .d (.sl (.int .u8) o__1)])], 1⟩ [] (by kernel_rfl) trivial ?_
  rcases iteS h with ⟨b325_e0, h⟩ | ⟨b325_e0, h⟩
  · refine At.step hm ht ⟨[], [true], [], [], []⟩ 2 ⟨[], [], [], 0⟩ [(decide ((((o__1.length : Nat) : Int) : Int) > 300)) = true] (by kernel_rfl) ⟨b325_e0, trivial⟩ ?_
    have h := Option.some.inj h
    subst h
    exact At.fin hm ht ⟨[], [], [], [2], []⟩ [] (by kernel_rfl) trivial
  · refine At.step hm ht ⟨[], [false], [], [1], [0]⟩ 3 ⟨[(1, .one (.c (.ptr 0 0)))], [], [(0, [.d (.int .u8 o__0), .d (.sl (.int .u8) o__1)])], 1⟩ [(decide ((((o__1.length : Nat) : Int) : Int) > 300)) = false] (by kernel_rfl) ⟨b325_e0, trivial⟩ ?_
    obtain ⟨r327_0, cr327_0, h⟩ := bindS h
    refine At.step hm ht ⟨[(1, .call [] [] (f32_opt_ParseKey_out r327_0))], [], [], [1, 3, 4], [0, 6]⟩ 4 ⟨[(1, .one (.c (.ptr 0 0))), (3, .one (.c (.ptr 1 0))), (4, .one (.c (.d (.bool r327_0.1))))], [], [(0, [.d (.int .u8 o__0), .d (.sl (.int .u8) o__1)]), (1, [.d (.int .u64 r327_0.2.1), .d (.bool r327_0.2.2.1), .d (.int .u64 r327_0.2.2.2)])], 2⟩ [FnOK Go.Proofs.Try.prog 32 (f32_opt_ParseKey_in o__0 o__1) (f32_opt_ParseKey_out r327_0), 0 + 3 ≤ 3] (by kernel_rfl) ⟨(f32_opt_ParseKey_ok n o__0 o__1 r327_0 cr327_0), (by decide), trivial⟩ ?_
    obtain ⟨r328_0, cr328_0, h⟩ := bindS h
    refine At.step hm ht ⟨[(1, .call [] [] (f33_broughamref08_ParseKey_out r328_0))], [], [], [1, 3, 4, 5, 6, 7, 8], [0, 1]⟩ 5 ⟨[(1, .one (.c (.ptr 0 0))), (3, .one (.c (.ptr 1 0))), (4, .one (.c (.d (.bool r327_0.1)))), (5, .one (.c (.d (.int .u64 r328_0.1)))), (6, .one (.c (.d (.int .u64 r328_0.2.1)))), (7, .one (.c (.d (.bool r328_0.2.2.1)))), (8, .one (.c (.d (.bool r328_0.2.2.2))))], [], [(0, [.d (.int .u8 o__0), .d (.sl (.int .u8) o__1)]), (1, [.d (.int .u64 r327_0.2.1), .d (.bool r327_0.2.2.1), .d (.int .u64 r327_0.2.2.2)])], 2⟩ [FnOK Go.Proofs.Try.prog 33 (f33_broughamref08_ParseKey_in o__0 o__1) (f33_broughamref08_ParseKey_out r328_0)] (by kernel_rfl) ⟨(f33_broughamref08_ParseKey_ok n o__0 o__1 r328_0 cr328_0), trivial⟩ ?_
    rcases iteS h with ⟨b365_3, h⟩ | ⟨b365_3, h⟩
    · refine At.step hm ht ⟨[(3, .b true)], [true], [], [], []⟩ 6 ⟨[], [], [], 0⟩ [(!(r327_0.1 == r328_0.2.2.2)) = true, true = true] (by kernel_rfl) ⟨b365_3, rfl, trivial⟩ ?_
      have h := Option.some.inj h
      subst h
      exact At.fin hm ht ⟨[], [], [], [2], []⟩ [] (by kernel_rfl) trivial
    · rcases iteS h with ⟨b365_9, h⟩ | ⟨b365_9, h⟩
      · refine At.step hm ht ⟨[(3, .b false), (9, .b true)], [true], [], [], []⟩ 6 ⟨[], [], [], 0⟩ [(!(r327_0.1 == r328_0.2.2.2)) = false, ((r327_0.2.1 : Int) != r328_0.1) = true, true = true] (by kernel_rfl) ⟨b365_3, b365_9, rfl, trivial⟩ ?_
        have h := Option.some.inj h
        subst h
        exact At.fin hm ht ⟨[], [], [], [2], []⟩ [] (by kernel_rfl) trivial
      · rcases iteS h with ⟨b365_16, h⟩ | ⟨b365_16, h⟩
        · refine At.step hm ht ⟨[(3, .b false), (9, .b false), (16, .b true)], [true], [], [], []⟩ 6 ⟨[], [], [], 0⟩ [(!(r327_0.1 == r328_0.2.2.2)) = false, ((r327_0.2.1 : Int) != r328_0.1) = false, ((r327_0.2.2.2 : Int) != r328_0.2.1) = true, true = true] (by kernel_rfl) ⟨b365_3, b365_9, b365_16, rfl, trivial⟩ ?_
          have h := Option.some.inj h
          subst h
          exact At.fin hm ht ⟨[], [], [], [2], []⟩ [] (by kernel_rfl) trivial
        · rcases iteS h with ⟨b365_e0, h⟩ | ⟨b365_e0, h⟩
          · refine At.step hm ht ⟨[(3, .b false), (9, .b false), (16, .b false)], [true], [], [], []⟩ 6 ⟨[], [], [], 0⟩ [(!(r327_0.1 == r328_0.2.2.2)) = false, ((r327_0.2.1 : Int) != r328_0.1) = false, ((r327_0.2.2.2 : Int) != r328_0.2.1) = false, (!(r327_0.2.2.1 == r328_0.2.2.1)) = true] (by kernel_rfl) ⟨b365_3, b365_9, b365_16, b365_e0, trivial⟩ ?_
            have h := Option.some.inj h
            subst h
            exact At.fin hm ht ⟨[], [], [], [2], []⟩ [] (by kernel_rfl) trivial
          · refine At.step hm ht ⟨[(3, .b false), (9, .b false), (16, .b false)], [false], [], [1], [0]⟩ 7 ⟨[(1, .one (.c (.ptr 0 0)))], [], [(0, [.d (.int .u8 o__0), .d (.sl (.int .u8) o__1)])], 1⟩ [(!(r327_0.1 == r328_0.2.2.2)) = false, ((r327_0.2.1 : Int) != r328_0.1) = false, ((r327_0.2.2.2 : Int) != r328_0.2.1) = false, (!(r327_0.2.2.1 == r328_0.2.2.1)) = false] (by kernel_rfl) ⟨b365_3, b365_9, b365_16, b365_e0, trivial⟩ ?_
            obtain ⟨r370_0, cr370_0, h⟩ := bindS h
            refine At.step hm ht ⟨[(1, .call [] [] (f34_opt_ParseJoin_out r370_0))], [], [], [1, 4, 9], [0, 6]⟩ 8 ⟨[(1, .one (.c (.ptr 0 0))), (4, .one (.c (.d (.bool r370_0.1)))), (9, .one (.c (.ptr 1 0)))], [], [(0, [.d (.int .u8 o__0), .d (.sl (.int .u8) o__1)]), (1, [.d (.int .u32 r370_0.2.1), .d (.int .u32 r370_0.2.2.1), .d (.int .u8 r370_0.2.2.2.1), .d (.bool r370_0.2.2.2.2.1), .d (.bool r370_0.2.2.2.2.2.1), .d (.int .u64 r370_0.2.2.2.2.2.2)])], 2⟩ [FnOK Go.Proofs.Try.prog 34 (f34_opt_ParseJoin_in o__0 o__1) (f34_opt_ParseJoin_out r370_0), 0 + 6 ≤ 6] (by kernel_rfl) ⟨(f34_opt_ParseJoin_ok n o__0 o__1 r370_0 cr370_0), (by decide), trivial⟩ ?_
            obtain ⟨r385_0, cr385_0, h⟩ := bindS h
            refine At.step hm ht ⟨[(1, .call [] [] (f35_broughamref08_ParseJoin_out r385_0))], [], [], [1, 4, 8, 9, 10], [0, 1, 7]⟩ 9 ⟨[(1, .one (.c (.ptr 0 0))), (4, .one (.c (.d (.bool r370_0.1)))), (8, .one (.c (.d (.bool r385_0.1)))), (9, .one (.c (.ptr 1 0))), (10, .one (.c (.ptr 2 0)))], [], [(0, [.d (.int .u8 o__0), .d (.sl (.int .u8) o__1)]), (1, [.d (.int .u32 r370_0.2.1), .d (.int .u32 r370_0.2.2.1), .d (.int .u8 r370_0.2.2.2.1), .d (.bool r370_0.2.2.2.2.1), .d (.bool r370_0.2.2.2.2.2.1), .d (.int .u64 r370_0.2.2.2.2.2.2)]), (2, [.d (.int .u32 r385_0.2.1), .d (.int .u32 r385_0.2.2.1), .d (.int .u8 r385_0.2.2.2.1), .d (.bool r385_0.2.2.2.2.1), .d (.bool r385_0.2.2.2.2.2.1), .d (.int .u64 r385_0.2.2.2.2.2.2)])], 3⟩ [FnOK Go.Proofs.Try.prog 35 (f35_broughamref08_ParseJoin_in o__0 o__1) (f35_broughamref08_ParseJoin_out r385_0), 0 + 6 ≤ 6] (by kernel_rfl) ⟨(f35_broughamref08_ParseJoin_ok n o__0 o__1 r385_0 cr385_0), (by decide), trivial⟩ ?_
            rcases iteS h with ⟨b437_3, h⟩ | ⟨b437_3, h⟩
            · refine At.step hm ht ⟨[(3, .b true)], [true], [], [], []⟩ 10 ⟨[], [], [], 0⟩ [(!(r370_0.1 == r385_0.1)) = true, true = true] (by kernel_rfl) ⟨b437_3, rfl, trivial⟩ ?_
              have h := Option.some.inj h
              subst h
              exact At.fin hm ht ⟨[], [], [], [2], []⟩ [] (by kernel_rfl) trivial
            · obtain ⟨r437_0, cr437_0, h⟩ := bindS h
              rcases iteS h with ⟨b437_e0, h⟩ | ⟨b437_e0, h⟩
              · refine At.step hm ht ⟨[(3, .b false), (5, .call [] [] (f25_broughamlaw08_join_out r437_0))], [true], [], [], []⟩ 10 ⟨[], [], [], 0⟩ [(!(r370_0.1 == r385_0.1)) = false, FnOK Go.Proofs.Try.prog 25 (f25_broughamlaw08_join_in r370_0.2.1 r370_0.2.2.1 r370_0.2.2.2.1 r370_0.2.2.2.2.1 r370_0.2.2.2.2.2.1 r370_0.2.2.2.2.2.2) (f25_broughamlaw08_join_out r437_0), (!(((r437_0.1 : Int) == r385_0.2.1) && (((r437_0.2.1 : Int) == r385_0.2.2.1) && (((r437_0.2.2.1 : Int) == r385_0.2.2.2.1) && ((r437_0.2.2.2.1 == r385_0.2.2.2.2.1) && ((r437_0.2.2.2.2.1 == r385_0.2.2.2.2.2.1) && ((r437_0.2.2.2.2.2 : Int) == r385_0.2.2.2.2.2.2))))))) = true] (by kernel_rfl) ⟨b437_3, (f25_broughamlaw08_join_ok r370_0.2.1 r370_0.2.2.1 r370_0.2.2.2.1 r370_0.2.2.2.2.1 r370_0.2.2.2.2.2.1 r370_0.2.2.2.2.2.2 r437_0 cr437_0), b437_e0, trivial⟩ ?_
                have h := Option.some.inj h
                subst h
                exact At.fin hm ht ⟨[], [], [], [2], []⟩ [] (by kernel_rfl) trivial
              · refine At.step hm ht ⟨[(3, .b false), (5, .call [] [] (f25_broughamlaw08_join_out r437_0))], [false], [], [1], [0]⟩ 11 ⟨[(1, .one (.c (.ptr 0 0)))], [], [(0, [.d (.int .u8 o__0), .d (.sl (.int .u8) o__1)])], 1⟩ [(!(r370_0.1 == r385_0.1)) = false, FnOK Go.Proofs.Try.prog 25 (f25_broughamlaw08_join_in r370_0.2.1 r370_0.2.2.1 r370_0.2.2.2.1 r370_0.2.2.2.2.1 r370_0.2.2.2.2.2.1 r370_0.2.2.2.2.2.2) (f25_broughamlaw08_join_out r437_0), (!(((r437_0.1 : Int) == r385_0.2.1) && (((r437_0.2.1 : Int) == r385_0.2.2.1) && (((r437_0.2.2.1 : Int) == r385_0.2.2.2.1) && ((r437_0.2.2.2.1 == r385_0.2.2.2.2.1) && ((r437_0.2.2.2.2.1 == r385_0.2.2.2.2.2.1) && ((r437_0.2.2.2.2.2 : Int) == r385_0.2.2.2.2.2.2))))))) = false] (by kernel_rfl) ⟨b437_3, (f25_broughamlaw08_join_ok r370_0.2.1 r370_0.2.2.1 r370_0.2.2.2.1 r370_0.2.2.2.2.1 r370_0.2.2.2.2.2.1 r370_0.2.2.2.2.2.2 r437_0 cr437_0), b437_e0, trivial⟩ ?_
                obtain ⟨r440_0, cr440_0, h⟩ := bindS h
                refine At.step hm ht ⟨[(1, .call [] [] (f36_opt_ParseData_out r440_0))], [], [], [1, 4, 11], [0, 6]⟩ 12 ⟨[(1, .one (.c (.ptr 0 0))), (4, .one (.c (.d (.bool r440_0.1)))), (11, .one (.c (.ptr 1 0)))], [], [(0, [.d (.int .u8 o__0), .d (.sl (.int .u8) o__1)]), (1, [.d (.bool r440_0.2.1), .d (.bool r440_0.2.2.1), .d (.int .u64 r440_0.2.2.2.1), .d (.int .u64 r440_0.2.2.2.2.1), .d (.int .u32 r440_0.2.2.2.2.2.1), .d (.int .u64 r440_0.2.2.2.2.2.2)])], 2⟩ [FnOK Go.Proofs.Try.prog 36 (f36_opt_ParseData_in o__0 o__1) (f36_opt_ParseData_out r440_0), 0 + 6 ≤ 6] (by kernel_rfl) ⟨(f36_opt_ParseData_ok n o__0 o__1 r440_0 cr440_0), (by decide), trivial⟩ ?_
                obtain ⟨r448_0, cr448_0, h⟩ := bindS h
                refine At.step hm ht ⟨[(1, .call [] [] (f37_broughamref08_ParseData_out r448_0))], [], [], [1, 4, 8, 11, 12], [0, 1, 7]⟩ 13 ⟨[(1, .one (.c (.ptr 0 0))), (4, .one (.c (.d (.bool r440_0.1)))), (8, .one (.c (.d (.bool r448_0.1)))), (11, .one (.c (.ptr 1 0))), (12, .one (.c (.ptr 2 0)))], [], [(0, [.d (.int .u8 o__0), .d (.sl (.int .u8) o__1)]), (1, [.d (.bool r440_0.2.1), .d (.bool r440_0.2.2.1), .d (.int .u64 r440_0.2.2.2.1), .d (.int .u64 r440_0.2.2.2.2.1), .d (.int .u32 r440_0.2.2.2.2.2.1), .d (.int .u64 r440_0.2.2.2.2.2.2)]), (2, [.d (.bool r448_0.2.1), .d (.bool r448_0.2.2.1), .d (.int .u64 r448_0.2.2.2.1), .d (.int .u64 r448_0.2.2.2.2.1), .d (.int .u32 r448_0.2.2.2.2.2.1), .d (.int .u64 r448_0.2.2.2.2.2.2)])], 3⟩ [FnOK Go.Proofs.Try.prog 37 (f37_broughamref08_ParseData_in o__0 o__1) (f37_broughamref08_ParseData_out r448_0), 0 + 6 ≤ 6] (by kernel_rfl) ⟨(f37_broughamref08_ParseData_ok n o__0 o__1 r448_0 cr448_0), (by decide), trivial⟩ ?_
                rcases iteS h with ⟨b457_3, h⟩ | ⟨b457_3, h⟩
                · refine At.step hm ht ⟨[(3, .b true)], [true], [], [], []⟩ 14 ⟨[], [], [], 0⟩ [(!(r440_0.1 == r448_0.1)) = true, true = true] (by kernel_rfl) ⟨b457_3, rfl, trivial⟩ ?_
                  have h := Option.some.inj h
                  subst h
                  exact At.fin hm ht ⟨[], [], [], [2], []⟩ [] (by kernel_rfl) trivial
                · obtain ⟨r457_0, cr457_0, h⟩ := bindS h
                  rcases iteS h with ⟨b457_e0, h⟩ | ⟨b457_e0, h⟩
                  · refine At.step hm ht ⟨[(3, .b false), (5, .call [] [] (f28_broughamlaw08_data_out r457_0))], [true], [], [], []⟩ 14 ⟨[], [], [], 0⟩ [(!(r440_0.1 == r448_0.1)) = false, FnOK Go.Proofs.Try.prog 28 (f28_broughamlaw08_data_in r440_0.2.1 r440_0.2.2.1 r440_0.2.2.2.1 r440_0.2.2.2.2.1 r440_0.2.2.2.2.2.1 r440_0.2.2.2.2.2.2) (f28_broughamlaw08_data_out r457_0), (!((r457_0.1 == r448_0.2.1) && ((r457_0.2.1 == r448_0.2.2.1) && (((r457_0.2.2.1 : Int) == r448_0.2.2.2.1) && (((r457_0.2.2.2.1 : Int) == r448_0.2.2.2.2.1) && (((r457_0.2.2.2.2.1 : Int) == r448_0.2.2.2.2.2.1) && ((r457_0.2.2.2.2.2 : Int) == r448_0.2.2.2.2.2.2))))))) = true] (by kernel_rfl) ⟨b457_3, (f28_broughamlaw08_data_ok r440_0.2.1 r440_0.2.2.1 r440_0.2.2.2.1 r440_0.2.2.2.2.1 r440_0.2.2.2.2.2.1 r440_0.2.2.2.2.2.2 r457_0 cr457_0), b457_e0, trivial⟩ ?_
                    have h := Option.some.inj h
                    subst h
                    exact At.fin hm ht ⟨[], [], [], [2], []⟩ [] (by kernel_rfl) trivial
                  · refine At.step hm ht ⟨[(3, .b false), (5, .call [] [] (f28_broughamlaw08_data_out r457_0))], [false], [], [1], [0]⟩ 15 ⟨[(1, .one (.c (.ptr 0 0)))], [], [(0, [.d (.int .u8 o__0), .d (.sl (.int .u8) o__1)])], 1⟩ [(!(r440_0.1 == r448_0.1)) = false, FnOK Go.Proofs.Try.prog 28 (f28_broughamlaw08_data_in r440_0.2.1 r440_0.2.2.1 r440_0.2.2.2.1 r440_0.2.2.2.2.1 r440_0.2.2.2.2.2.1 r440_0.2.2.2.2.2.2) (f28_broughamlaw08_data_out r457_0), (!((r457_0.1 == r448_0.2.1) && ((r457_0.2.1 == r448_0.2.2.1) && (((r457_0.2.2.1 : Int) == r448_0.2.2.2.1) && (((r457_0.2.2.2.1 : Int) == r448_0.2.2.2.2.1) && (((r457_0.2.2.2.2.1 : Int) == r448_0.2.2.2.2.2.1) && ((r457_0.2.2.2.2.2 : Int) == r448_0.2.2.2.2.2.2))))))) = false] (by kernel_rfl) ⟨b457_3, (f28_broughamlaw08_data_ok r440_0.2.1 r440_0.2.2.1 r440_0.2.2.2.1 r440_0.2.2.2.2.1 r440_0.2.2.2.2.2.1 r440_0.2.2.2.2.2.2 r457_0 cr457_0), b457_e0, trivial⟩ ?_
                    obtain ⟨r460_0, cr460_0, h⟩ := bindS h
                    refine At.step hm ht ⟨[(1, .call [] [] (f38_opt_ParseWord_out r460_0))], [], [], [1, 4, 13], [0, 6]⟩ 16 ⟨[(1, .one (.c (.ptr 0 0))), (4, .one (.c (.d (.bool r460_0.1)))), (13, .one (.c (.ptr 1 0)))], [], [(0, [.d (.int .u8 o__0), .d (.sl (.int .u8) o__1)]), (1, [.d (.int .u8 r460_0.2.1), .d (.int .u32 r460_0.2.2.1), .d (.int .u8 r460_0.2.2.2.1), .d (.int .u8 r460_0.2.2.2.2.1), .d (.bool r460_0.2.2.2.2.2.1), .d (.int .u64 r460_0.2.2.2.2.2.2)])], 2⟩ [FnOK Go.Proofs.Try.prog 38 (f38_opt_ParseWord_in o__0 o__1) (f38_opt_ParseWord_out r460_0), 0 + 6 ≤ 6] (by kernel_rfl) ⟨(f38_opt_ParseWord_ok n o__0 o__1 r460_0 cr460_0), (by decide), trivial⟩ ?_
                    obtain ⟨r469_0, cr469_0, h⟩ := bindS h
                    refine At.step hm ht ⟨[(1, .call [] [] (f39_broughamref08_ParseWord_out r469_0))], [], [], [1, 4, 8, 13, 14], [0, 1, 7]⟩ 17 ⟨[(1, .one (.c (.ptr 0 0))), (4, .one (.c (.d (.bool r460_0.1)))), (8, .one (.c (.d (.bool r469_0.1)))), (13, .one (.c (.ptr 1 0))), (14, .one (.c (.ptr 2 0)))], [], [(0, [.d (.int .u8 o__0), .d (.sl (.int .u8) o__1)]), (1, [.d (.int .u8 r460_0.2.1), .d (.int .u32 r460_0.2.2.1), .d (.int .u8 r460_0.2.2.2.1), .d (.int .u8 r460_0.2.2.2.2.1), .d (.bool r460_0.2.2.2.2.2.1), .d (.int .u64 r460_0.2.2.2.2.2.2)]), (2, [.d (.int .u32 r469_0.2.1), .d (.int .u8 r469_0.2.2.1), .d (.int .u8 r469_0.2.2.2.1), .d (.bool r469_0.2.2.2.2.1), .d (.int .u64 r469_0.2.2.2.2.2)])], 3⟩ [FnOK Go.Proofs.Try.prog 39 (f39_broughamref08_ParseWord_in o__0 o__1) (f39_broughamref08_ParseWord_out r469_0), 0 + 5 ≤ 5] (by kernel_rfl) ⟨(f39_broughamref08_ParseWord_ok n o__0 o__1 r469_0 cr469_0), (by decide), trivial⟩ ?_
                    rcases iteS h with ⟨b479_3, h⟩ | ⟨b479_3, h⟩
                    · obtain ⟨r479_0, cr479_0, h⟩ := bindS h
                      rcases iteS h with ⟨b479_9, h⟩ | ⟨b479_9, h⟩
                      · rcases iteS h with ⟨b479_12, h⟩ | ⟨b479_12, h⟩
                        · rcases iteS h with ⟨b479_22, h⟩ | ⟨b479_22, h⟩
                          · obtain ⟨r479_1, cr479_1, h⟩ := bindS h
                            have h := Option.some.inj h
                            subst h
                            exact At.fin hm ht ⟨[(3, .b true), (5, .call [] [] (f31_broughamlaw08_word_out r479_0)), (9, .b true), (12, .b true), (22, .b true), (29, .call [] [] (f19_broughamlaw08_alive_out r479_1))], [], [], [2], []⟩ [(r460_0.1 == r469_0.1) = true, FnOK Go.Proofs.Try.prog 31 (f31_broughamlaw08_word_in r460_0.2.1 r460_0.2.2.1 r460_0.2.2.2.1 r460_0.2.2.2.2.1 r460_0.2.2.2.2.2.1 r460_0.2.2.2.2.2.2) (f31_broughamlaw08_word_out r479_0), (((r479_0.1 : Int) == r469_0.2.1) && (((r479_0.2.1 : Int) == r469_0.2.2.1) && (((r479_0.2.2.1 : Int) == r469_0.2.2.2.1) && ((r479_0.2.2.2.1 == r469_0.2.2.2.2.1) && ((r479_0.2.2.2.2 : Int) == r469_0.2.2.2.2.2))))) = true, (!r460_0.1) = true, r460_0.1 = true, FnOK Go.Proofs.Try.prog 19 (f19_broughamlaw08_alive_in) (f19_broughamlaw08_alive_out r479_1)] (by kernel_rfl) ⟨b479_3, (f31_broughamlaw08_word_ok r460_0.2.1 r460_0.2.2.1 r460_0.2.2.2.1 r460_0.2.2.2.2.1 r460_0.2.2.2.2.2.1 r460_0.2.2.2.2.2.2 r479_0 cr479_0), b479_9, b479_12, b479_22, (f19_broughamlaw08_alive_ok n r479_1 cr479_1), trivial⟩
                          · rcases iteS h with ⟨b479_28, h⟩ | ⟨b479_28, h⟩
                            · obtain ⟨r479_1, cr479_1, h⟩ := bindS h
                              have h := Option.some.inj h
                              subst h
                              exact At.fin hm ht ⟨[(3, .b true), (5, .call [] [] (f31_broughamlaw08_word_out r479_0)), (9, .b true), (12, .b true), (22, .b false), (28, .b true), (29, .call [] [] (f19_broughamlaw08_alive_out r479_1))], [], [], [2], []⟩ [(r460_0.1 == r469_0.1) = true, FnOK Go.Proofs.Try.prog 31 (f31_broughamlaw08_word_in r460_0.2.1 r460_0.2.2.1 r460_0.2.2.2.1 r460_0.2.2.2.2.1 r460_0.2.2.2.2.2.1 r460_0.2.2.2.2.2.2) (f31_broughamlaw08_word_out r479_0), (((r479_0.1 : Int) == r469_0.2.1) && (((r479_0.2.1 : Int) == r469_0.2.2.1) && (((r479_0.2.2.1 : Int) == r469_0.2.2.2.1) && ((r479_0.2.2.2.1 == r469_0.2.2.2.2.1) && ((r479_0.2.2.2.2 : Int) == r469_0.2.2.2.2.2))))) = true, (!r460_0.1) = true, r460_0.1 = false, ((r460_0.2.1 : Int) == 0) = true, FnOK Go.Proofs.Try.prog 19 (f19_broughamlaw08_alive_in) (f19_broughamlaw08_alive_out r479_1)] (by kernel_rfl) ⟨b479_3, (f31_broughamlaw08_word_ok r460_0.2.1 r460_0.2.2.1 r460_0.2.2.2.1 r460_0.2.2.2.2.1 r460_0.2.2.2.2.2.1 r460_0.2.2.2.2.2.2 r479_0 cr479_0), b479_9, b479_12, b479_22, b479_28, (f19_broughamlaw08_alive_ok n r479_1 cr479_1), trivial⟩
                            · have h := Option.some.inj h
                              subst h
                              exact At.fin hm ht ⟨[(3, .b true), (5, .call [] [] (f31_broughamlaw08_word_out r479_0)), (9, .b true), (12, .b true), (22, .b false), (28, .b false)], [], [], [2], []⟩ [(r460_0.1 == r469_0.1) = true, FnOK Go.Proofs.Try.prog 31 (f31_broughamlaw08_word_in r460_0.2.1 r460_0.2.2.1 r460_0.2.2.2.1 r460_0.2.2.2.2.1 r460_0.2.2.2.2.2.1 r460_0.2.2.2.2.2.2) (f31_broughamlaw08_word_out r479_0), (((r479_0.1 : Int) == r469_0.2.1) && (((r479_0.2.1 : Int) == r469_0.2.2.1) && (((r479_0.2.2.1 : Int) == r469_0.2.2.2.1) && ((r479_0.2.2.2.1 == r469_0.2.2.2.2.1) && ((r479_0.2.2.2.2 : Int) == r469_0.2.2.2.2.2))))) = true, (!r460_0.1) = true, r460_0.1 = false, ((r460_0.2.1 : Int) == 0) = false] (by kernel_rfl) ⟨b479_3, (f31_broughamlaw08_word_ok r460_0.2.1 r460_0.2.2.1 r460_0.2.2.2.1 r460_0.2.2.2.2.1 r460_0.2.2.2.2.2.1 r460_0.2.2.2.2.2.2 r479_0 cr479_0), b479_9, b479_12, b479_22, b479_28, trivial⟩
                        · rcases iteS h with ⟨b479_20, h⟩ | ⟨b479_20, h⟩
                          · rcases iteS h with ⟨b479_22, h⟩ | ⟨b479_22, h⟩
                            · obtain ⟨r479_1, cr479_1, h⟩ := bindS h
                              have h := Option.some.inj h
                              subst h
                              exact At.fin hm ht ⟨[(3, .b true), (5, .call [] [] (f31_broughamlaw08_word_out r479_0)), (9, .b true), (12, .b false), (20, .b true), (22, .b true), (29, .call [] [] (f19_broughamlaw08_alive_out r479_1))], [], [], [2], []⟩ [(r460_0.1 == r469_0.1) = true, FnOK Go.Proofs.Try.prog 31 (f31_broughamlaw08_word_in r460_0.2.1 r460_0.2.2.1 r460_0.2.2.2.1 r460_0.2.2.2.2.1 r460_0.2.2.2.2.2.1 r460_0.2.2.2.2.2.2) (f31_broughamlaw08_word_out r479_0), (((r479_0.1 : Int) == r469_0.2.1) && (((r479_0.2.1 : Int) == r469_0.2.2.1) && (((r479_0.2.2.1 : Int) == r469_0.2.2.2.1) && ((r479_0.2.2.2.1 == r469_0.2.2.2.2.1) && ((r479_0.2.2.2.2 : Int) == r469_0.2.2.2.2.2))))) = true, (!r460_0.1) = false, ((r460_0.2.1 : Int) == o__0) = true, r460_0.1 = true, FnOK Go.Proofs.Try.prog 19 (f19_broughamlaw08_alive_in) (f19_broughamlaw08_alive_out r479_1)] (by kernel_rfl) ⟨b479_3, (f31_broughamlaw08_word_ok r460_0.2.1 r460_0.2.2.1 r460_0.2.2.2.1 r460_0.2.2.2.2.1 r460_0.2.2.2.2.2.1 r460_0.2.2.2.2.2.2 r479_0 cr479_0), b479_9, b479_12, b479_20, b479_22, (f19_broughamlaw08_alive_ok n r479_1 cr479_1), trivial⟩
                            · rcases iteS h with ⟨b479_28, h⟩ | ⟨b479_28, h⟩
                              · obtain ⟨r479_1, cr479_1, h⟩ := bindS h
                                have h := Option.some.inj h
                                subst h
                                exact At.fin hm ht ⟨[(3, .b true), (5, .call [] [] (f31_broughamlaw08_word_out r479_0)), (9, .b true), (12, .b false), (20, .b true), (22, .b false), (28, .b true), (29, .call [] [] (f19_broughamlaw08_alive_out r479_1))], [], [], [2], []⟩ [(r460_0.1 == r469_0.1) = true, FnOK Go.Proofs.Try.prog 31 (f31_broughamlaw08_word_in r460_0.2.1 r460_0.2.2.1 r460_0.2.2.2.1 r460_0.2.2.2.2.1 r460_0.2.2.2.2.2.1 r460_0.2.2.2.2.2.2) (f31_broughamlaw08_word_out r479_0), (((r479_0.1 : Int) == r469_0.2.1) && (((r479_0.2.1 : Int) == r469_0.2.2.1) && (((r479_0.2.2.1 : Int) == r469_0.2.2.2.1) && ((r479_0.2.2.2.1 == r469_0.2.2.2.2.1) && ((r479_0.2.2.2.2 : Int) == r469_0.2.2.2.2.2))))) = true, (!r460_0.1) = false, ((r460_0.2.1 : Int) == o__0) = true, r460_0.1 = false, ((r460_0.2.1 : Int) == 0) = true, FnOK Go.Proofs.Try.prog 19 (f19_broughamlaw08_alive_in) (f19_broughamlaw08_alive_out r479_1)] (by kernel_rfl) ⟨b479_3, (f31_broughamlaw08_word_ok r460_0.2.1 r460_0.2.2.1 r460_0.2.2.2.1 r460_0.2.2.2.2.1 r460_0.2.2.2.2.2.1 r460_0.2.2.2.2.2.2 r479_0 cr479_0), b479_9, b479_12, b479_20, b479_22, b479_28, (f19_broughamlaw08_alive_ok n r479_1 cr479_1), trivial⟩
                              · have h := Option.some.inj h
                                subst h
                                exact At.fin hm ht ⟨[(3, .b true), (5, .call [] [] (f31_broughamlaw08_word_out r479_0)), (9, .b true), (12, .b false), (20, .b true), (22, .b false), (28, .b false)], [], [], [2], []⟩ [(r460_0.1 == r469_0.1) = true, FnOK Go.Proofs.Try.prog 31 (f31_broughamlaw08_word_in r460_0.2.1 r460_0.2.2.1 r460_0.2.2.2.1 r460_0.2.2.2.2.1 r460_0.2.2.2.2.2.1 r460_0.2.2.2.2.2.2) (f31_broughamlaw08_word_out r479_0), (((r479_0.1 : Int) == r469_0.2.1) && (((r479_0.2.1 : Int) == r469_0.2.2.1) && (((r479_0.2.2.1 : Int) == r469_0.2.2.2.1) && ((r479_0.2.2.2.1 == r469_0.2.2.2.2.1) && ((r479_0.2.2.2.2 : Int) == r469_0.2.2.2.2.2))))) = true, (!r460_0.1) = false, ((r460_0.2.1 : Int) == o__0) = true, r460_0.1 = false, ((r460_0.2.1 : Int) == 0) = false] (by kernel_rfl) ⟨b479_3, (f31_broughamlaw08_word_ok r460_0.2.1 r460_0.2.2.1 r460_0.2.2.2.1 r460_0.2.2.2.2.1 r460_0.2.2.2.2.2.1 r460_0.2.2.2.2.2.2 r479_0 cr479_0), b479_9, b479_12, b479_20, b479_22, b479_28, trivial⟩
                          · have h := Option.some.inj h
                            subst h
                            exact At.fin hm ht ⟨[(3, .b true), (5, .call [] [] (f31_broughamlaw08_word_out r479_0)), (9, .b true), (12, .b false), (20, .b false)], [], [], [2], []⟩ [(r460_0.1 == r469_0.1) = true, FnOK Go.Proofs.Try.prog 31 (f31_broughamlaw08_word_in r460_0.2.1 r460_0.2.2.1 r460_0.2.2.2.1 r460_0.2.2.2.2.1 r460_0.2.2.2.2.2.1 r460_0.2.2.2.2.2.2) (f31_broughamlaw08_word_out r479_0), (((r479_0.1 : Int) == r469_0.2.1) && (((r479_0.2.1 : Int) == r469_0.2.2.1) && (((r479_0.2.2.1 : Int) == r469_0.2.2.2.1) && ((r479_0.2.2.2.1 == r469_0.2.2.2.2.1) && ((r479_0.2.2.2.2 : Int) == r469_0.2.2.2.2.2))))) = true, (!r460_0.1) = false, ((r460_0.2.1 : Int) == o__0) = false] (by kernel_rfl) ⟨b479_3, (f31_broughamlaw08_word_ok r460_0.2.1 r460_0.2.2.1 r460_0.2.2.2.1 r460_0.2.2.2.2.1 r460_0.2.2.2.2.2.1 r460_0.2.2.2.2.2.2 r479_0 cr479_0), b479_9, b479_12, b479_20, trivial⟩
                      · have h := Option.some.inj h
                        subst h
                        exact At.fin hm ht ⟨[(3, .b true), (5, .call [] [] (f31_broughamlaw08_word_out r479_0)), (9, .b false)], [], [], [2], []⟩ [(r460_0.1 == r469_0.1) = true, FnOK Go.Proofs.Try.prog 31 (f31_broughamlaw08_word_in r460_0.2.1 r460_0.2.2.1 r460_0.2.2.2.1 r460_0.2.2.2.2.1 r460_0.2.2.2.2.2.1 r460_0.2.2.2.2.2.2) (f31_broughamlaw08_word_out r479_0), (((r479_0.1 : Int) == r469_0.2.1) && (((r479_0.2.1 : Int) == r469_0.2.2.1) && (((r479_0.2.2.1 : Int) == r469_0.2.2.2.1) && ((r479_0.2.2.2.1 == r469_0.2.2.2.2.1) && ((r479_0.2.2.2.2 : Int) == r469_0.2.2.2.2.2))))) = false] (by kernel_rfl) ⟨b479_3, (f31_broughamlaw08_word_ok r460_0.2.1 r460_0.2.2.1 r460_0.2.2.2.1 r460_0.2.2.2.2.1 r460_0.2.2.2.2.2.1 r460_0.2.2.2.2.2.2 r479_0 cr479_0), b479_9, trivial⟩
                    · have h := Option.some.inj h
                      subst h
                      exact At.fin hm ht ⟨[(3, .b false)], [], [], [2], []⟩ [(r460_0.1 == r469_0.1) = false] (by kernel_rfl) ⟨b479_3, trivial⟩
end Go.Proofs.YtddglebabaaghaaF08
