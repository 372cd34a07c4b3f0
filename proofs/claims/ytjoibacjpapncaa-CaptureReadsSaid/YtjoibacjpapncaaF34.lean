/- What the functions compute, and that they do: printed by a program of this session (zgen.py), proved by Zed. -/
import Derived.Test.YtjoibacjpapncaaF34x0
namespace Go.Proofs.YtjoibacjpapncaaF34
open Go Zed
set_option maxRecDepth 100000
set_option linter.unusedVariables false
def f8_broughamlaw34_CaptureMerges_L20 : Nat → (List (Int × Int × Int × List Int)) → (List (Int × Int × Int × List Int)) → Int → Int → (List (Int × Int × Int × ByteArray)) → Int → Int → Int → Option ((List (Int × Int × Int × List Int)) × (List (Int × Int × Int × List Int)) × Int × Int × (List (Int × Int × Int × ByteArray)) × Int × Int)
  | 0, _, _, _, _, _, _, _, _ => none
  | n + 1, a, b, i, k, want, n_, x_0, x_1 =>
    if (decide ((n_ : Int) < ((a.length : Nat) : Int))) = true then
      if (0 : Int) ≤ n_ ∧ n_ < (((a).length : Nat) : Int) then
      if (decide ((((a.getD n_.toNat (0, (0, (0, [])))).1) : Int) ≥ x_0)) = true then
        if (0 : Int) ≤ n_ ∧ n_ < (((a).length : Nat) : Int) then
        if (decide ((((a.getD n_.toNat (0, (0, (0, [])))).1) : Int) < x_1)) = true then
          if cutOk a.length (some n_) (some (IntKind.wrap .i64 (n_ + 1))) (some (IntKind.wrap .i64 (n_ + 1))) then
          (f22_broughamlaw34_plain n ((a.take (IntKind.wrap .i64 (n_ + 1)).toNat).drop n_.toNat)).bind fun r193_1 =>
          if (0 : Int) ≤ 0 ∧ 0 < (((r193_1).length : Nat) : Int) then
          if want.length + [((r193_1.getD 0 (0, (0, (0, ByteArray.empty)))).1, (((r193_1.getD 0 (0, (0, (0, ByteArray.empty)))).2).1, (((r193_1.getD 0 (0, (0, (0, ByteArray.empty)))).2).2)))].length ≤ maxLen ∧ (want.length + [((r193_1.getD 0 (0, (0, (0, ByteArray.empty)))).1, (((r193_1.getD 0 (0, (0, (0, ByteArray.empty)))).2).1, (((r193_1.getD 0 (0, (0, (0, ByteArray.empty)))).2).2)))].length) * 40 ≤ 140737488355328 then
          f8_broughamlaw34_CaptureMerges_L20 n a b i k (want ++ [((r193_1.getD 0 (0, (0, (0, ByteArray.empty)))).1, (((r193_1.getD 0 (0, (0, (0, ByteArray.empty)))).2).1, (((r193_1.getD 0 (0, (0, (0, ByteArray.empty)))).2).2)))]) (IntKind.wrap .i64 (n_ + 1)) x_0 x_1
          else none
          else none
          else none
        else
          f8_broughamlaw34_CaptureMerges_L20 n a b i k want (IntKind.wrap .i64 (n_ + 1)) x_0 x_1
        else none
      else
        f8_broughamlaw34_CaptureMerges_L20 n a b i k want (IntKind.wrap .i64 (n_ + 1)) x_0 x_1
      else none
    else
      some ((a, b, i, k, want, x_0, x_1))
def f8_broughamlaw34_CaptureMerges_L20_k (e : (List (Int × Int × Int × List Int)) × (List (Int × Int × Int × List Int)) × Int × Int × (List (Int × Int × Int × ByteArray)) × Int × Int) (o : Out) : Prop := At Go.Proofs.Try.prog Go.Proofs.Try.f8 0 24 ⟨[(0, .one (.c (.d (.sl (.pair (.int .i64) (.pair (.int .i64) (.pair (.int .i64) (.slice (.int .u8))))) e.1)))), (1, .one (.c (.d (.sl (.pair (.int .i64) (.pair (.int .i64) (.pair (.int .i64) (.slice (.int .u8))))) e.2.1)))), (5, .one (.c (.ptr 0 0))), (8, .one (.c (.d (.int .i64 e.2.2.1)))), (9, .one (.c (.d (.int .i64 e.2.2.2.1)))), (12, .one (.c (.own 1 (.pair (.int .i64) (.pair (.int .i64) (.pair (.int .i64) .str))) e.2.2.2.2.1)))], [(1, some ⟨84, 0⟩)], [(0, [.d (.int .i64 e.2.2.2.2.2.1), .d (.int .i64 e.2.2.2.2.2.2)])], 2⟩ o
theorem f8_broughamlaw34_CaptureMerges_L20_ok (n : Nat) : ∀ (a : List (Int × Int × Int × List Int)) (b : List (Int × Int × Int × List Int)) (i : Int) (k : Int) (want : List (Int × Int × Int × ByteArray)) (n_ : Int) (x_0 : Int) (x_1 : Int) (w : (List (Int × Int × Int × List Int)) × (List (Int × Int × Int × List Int)) × Int × Int × (List (Int × Int × Int × ByteArray)) × Int × Int) (h : f8_broughamlaw34_CaptureMerges_L20 n a b i k want n_ x_0 x_1 = some w) (o : Out) (hk : f8_broughamlaw34_CaptureMerges_L20_k w o), At Go.Proofs.Try.prog Go.Proofs.Try.f8 0 20 ⟨[(0, .one (.c (.d (.sl (.pair (.int .i64) (.pair (.int .i64) (.pair (.int .i64) (.slice (.int .u8))))) a)))), (1, .one (.c (.d (.sl (.pair (.int .i64) (.pair (.int .i64) (.pair (.int .i64) (.slice (.int .u8))))) b)))), (5, .one (.c (.ptr 0 0))), (8, .one (.c (.d (.int .i64 i)))), (9, .one (.c (.d (.int .i64 k)))), (12, .one (.c (.own 1 (.pair (.int .i64) (.pair (.int .i64) (.pair (.int .i64) .str))) want))), (13, .one (.c (.d (.int .i64 n_))))], [(1, some ⟨84, 0⟩)], [(0, [.d (.int .i64 x_0), .d (.int .i64 x_1)])], 2⟩ o := by
  induction n with
  | zero => intro a b i k want n_ x_0 x_1 w h; rw [f8_broughamlaw34_CaptureMerges_L20] at h; cases h
  | succ n ih =>
    intro a b i k want n_ x_0 x_1 w h o hk
    rw [f8_broughamlaw34_CaptureMerges_L20] at h
    rcases iteS h with ⟨b191_e0, h⟩ | ⟨b191_e0, h⟩
    · refine At.step hm ht ⟨[], [true], [], [0, 1, 5, 8, 9, 12, 13], [0, 1]⟩ 22 ⟨[(0, .one (.c (.d (.sl (.pair (.int .i64) (.pair (.int .i64) (.pair (.int .i64) (.slice (.int .u8))))) a)))), (1, .one (.c (.d (.sl (.pair (.int .i64) (.pair (.int .i64) (.pair (.int .i64) (.slice (.int .u8))))) b)))), (5, .one (.c (.ptr 0 0))), (8, .one (.c (.d (.int .i64 i)))), (9, .one (.c (.d (.int .i64 k)))), (12, .one (.c (.own 1 (.pair (.int .i64) (.pair (.int .i64) (.pair (.int .i64) .str))) want))), (13, .one (.c (.d (.int .i64 n_))))], [(1, some ⟨84, 0⟩)], [(0, [.d (.int .i64 x_0), .d (.int .i64 x_1)])], 2⟩ [(decide ((n_ : Int) < ((a.length : Nat) : Int))) = true] (by kernel_rfl) ⟨b191_e0, trivial⟩ ?_
      obtain ⟨g192_0, h⟩ := ifS h
      rcases iteS h with ⟨b192_8, h⟩ | ⟨b192_8, h⟩
      · obtain ⟨g192_1, h⟩ := ifS h
        rcases iteS h with ⟨b192_e0, h⟩ | ⟨b192_e0, h⟩
        · refine At.step hm ht ⟨[(8, .b true)], [true], [], [0, 1, 5, 8, 9, 12, 13], [0, 1]⟩ 23 ⟨[(0, .one (.c (.d (.sl (.pair (.int .i64) (.pair (.int .i64) (.pair (.int .i64) (.slice (.int .u8))))) a)))), (1, .one (.c (.d (.sl (.pair (.int .i64) (.pair (.int .i64) (.pair (.int .i64) (.slice (.int .u8))))) b)))), (5, .one (.c (.ptr 0 0))), (8, .one (.c (.d (.int .i64 i)))), (9, .one (.c (.d (.int .i64 k)))), (12, .one (.c (.own 1 (.pair (.int .i64) (.pair (.int .i64) (.pair (.int .i64) .str))) want))), (13, .one (.c (.d (.int .i64 n_))))], [(1, some ⟨84, 0⟩)], [(0, [.d (.int .i64 x_0), .d (.int .i64 x_1)])], 2⟩ [(0 : Int) ≤ n_ ∧ n_ < (((a).length : Nat) : Int), (decide ((((a.getD n_.toNat (0, (0, (0, [])))).1) : Int) ≥ x_0)) = true, (0 : Int) ≤ n_ ∧ n_ < (((a).length : Nat) : Int), (decide ((((a.getD n_.toNat (0, (0, (0, [])))).1) : Int) < x_1)) = true] (by kernel_rfl) ⟨g192_0, b192_8, g192_1, b192_e0, trivial⟩ ?_
          obtain ⟨g193_0, h⟩ := ifS h
          obtain ⟨r193_1, cr193_1, h⟩ := bindS h
          obtain ⟨g193_2, h⟩ := ifS h
          obtain ⟨g193_3, h⟩ := ifS h
          refine At.step hm ht ⟨[(8, .call [] [] (f22_broughamlaw34_plain_out r193_1))], [], [], [0, 1, 5, 8, 9, 12, 13], [0, 14]⟩ 21 ⟨[(0, .one (.c (.d (.sl (.pair (.int .i64) (.pair (.int .i64) (.pair (.int .i64) (.slice (.int .u8))))) a)))), (1, .one (.c (.d (.sl (.pair (.int .i64) (.pair (.int .i64) (.pair (.int .i64) (.slice (.int .u8))))) b)))), (5, .one (.c (.ptr 0 0))), (8, .one (.c (.d (.int .i64 i)))), (9, .one (.c (.d (.int .i64 k)))), (12, .one (.c (.own 1 (.pair (.int .i64) (.pair (.int .i64) (.pair (.int .i64) .str))) (want ++ [((r193_1.getD 0 (0, (0, (0, ByteArray.empty)))).1, (((r193_1.getD 0 (0, (0, (0, ByteArray.empty)))).2).1, (((r193_1.getD 0 (0, (0, (0, ByteArray.empty)))).2).2)))])))), (13, .one (.c (.d (.int .i64 n_))))], [(1, some ⟨84, 0⟩)], [(0, [.d (.int .i64 x_0), .d (.int .i64 x_1)])], 2⟩ [cutOk a.length (some n_) (some (IntKind.wrap .i64 (n_ + 1))) (some (IntKind.wrap .i64 (n_ + 1))), FnOK Go.Proofs.Try.prog 22 (f22_broughamlaw34_plain_in ((a.take (IntKind.wrap .i64 (n_ + 1)).toNat).drop n_.toNat)) (f22_broughamlaw34_plain_out r193_1), (0 : Int) ≤ 0 ∧ 0 < (((r193_1).length : Nat) : Int), want.length + [((r193_1.getD 0 (0, (0, (0, ByteArray.empty)))).1, (((r193_1.getD 0 (0, (0, (0, ByteArray.empty)))).2).1, (((r193_1.getD 0 (0, (0, (0, ByteArray.empty)))).2).2)))].length ≤ maxLen ∧ (want.length + [((r193_1.getD 0 (0, (0, (0, ByteArray.empty)))).1, (((r193_1.getD 0 (0, (0, (0, ByteArray.empty)))).2).1, (((r193_1.getD 0 (0, (0, (0, ByteArray.empty)))).2).2)))].length) * 40 ≤ 140737488355328] (by kernel_rfl) ⟨g193_0, (f22_broughamlaw34_plain_ok n ((a.take (IntKind.wrap .i64 (n_ + 1)).toNat).drop n_.toNat) r193_1 cr193_1), g193_2, g193_3, trivial⟩ ?_
          refine At.step hm ht ⟨[], [], [], [0, 1, 5, 8, 9, 12, 13], [0, 1]⟩ 20 ⟨[(0, .one (.c (.d (.sl (.pair (.int .i64) (.pair (.int .i64) (.pair (.int .i64) (.slice (.int .u8))))) a)))), (1, .one (.c (.d (.sl (.pair (.int .i64) (.pair (.int .i64) (.pair (.int .i64) (.slice (.int .u8))))) b)))), (5, .one (.c (.ptr 0 0))), (8, .one (.c (.d (.int .i64 i)))), (9, .one (.c (.d (.int .i64 k)))), (12, .one (.c (.own 1 (.pair (.int .i64) (.pair (.int .i64) (.pair (.int .i64) .str))) (want ++ [((r193_1.getD 0 (0, (0, (0, ByteArray.empty)))).1, (((r193_1.getD 0 (0, (0, (0, ByteArray.empty)))).2).1, (((r193_1.getD 0 (0, (0, (0, ByteArray.empty)))).2).2)))])))), (13, .one (.c (.d (.int .i64 (IntKind.wrap .i64 (n_ + 1))))))], [(1, some ⟨84, 0⟩)], [(0, [.d (.int .i64 x_0), .d (.int .i64 x_1)])], 2⟩ [] (by kernel_rfl) trivial ?_
          exact ih a b i k (want ++ [((r193_1.getD 0 (0, (0, (0, ByteArray.empty)))).1, (((r193_1.getD 0 (0, (0, (0, ByteArray.empty)))).2).1, (((r193_1.getD 0 (0, (0, (0, ByteArray.empty)))).2).2)))]) (IntKind.wrap .i64 (n_ + 1)) x_0 x_1 w h o hk
        · refine At.step hm ht ⟨[(8, .b true)], [false], [], [0, 1, 5, 8, 9, 12, 13], [0, 1]⟩ 21 ⟨[(0, .one (.c (.d (.sl (.pair (.int .i64) (.pair (.int .i64) (.pair (.int .i64) (.slice (.int .u8))))) a)))), (1, .one (.c (.d (.sl (.pair (.int .i64) (.pair (.int .i64) (.pair (.int .i64) (.slice (.int .u8))))) b)))), (5, .one (.c (.ptr 0 0))), (8, .one (.c (.d (.int .i64 i)))), (9, .one (.c (.d (.int .i64 k)))), (12, .one (.c (.own 1 (.pair (.int .i64) (.pair (.int .i64) (.pair (.int .i64) .str))) want))), (13, .one (.c (.d (.int .i64 n_))))], [(1, some ⟨84, 0⟩)], [(0, [.d (.int .i64 x_0), .d (.int .i64 x_1)])], 2⟩ [(0 : Int) ≤ n_ ∧ n_ < (((a).length : Nat) : Int), (decide ((((a.getD n_.toNat (0, (0, (0, [])))).1) : Int) ≥ x_0)) = true, (0 : Int) ≤ n_ ∧ n_ < (((a).length : Nat) : Int), (decide ((((a.getD n_.toNat (0, (0, (0, [])))).1) : Int) < x_1)) = false] (by kernel_rfl) ⟨g192_0, b192_8, g192_1, b192_e0, trivial⟩ ?_
          refine At.step hm ht ⟨[], [], [], [0, 1, 5, 8, 9, 12, 13], [0, 1]⟩ 20 ⟨[(0, .one (.c (.d (.sl (.pair (.int .i64) (.pair (.int .i64) (.pair (.int .i64) (.slice (.int .u8))))) a)))), (1, .one (.c (.d (.sl (.pair (.int .i64) (.pair (.int .i64) (.pair (.int .i64) (.slice (.int .u8))))) b)))), (5, .one (.c (.ptr 0 0))), (8, .one (.c (.d (.int .i64 i)))), (9, .one (.c (.d (.int .i64 k)))), (12, .one (.c (.own 1 (.pair (.int .i64) (.pair (.int .i64) (.pair (.int .i64) .str))) want))), (13, .one (.c (.d (.int .i64 (IntKind.wrap .i64 (n_ + 1))))))], [(1, some ⟨84, 0⟩)], [(0, [.d (.int .i64 x_0), .d (.int .i64 x_1)])], 2⟩ [] (by kernel_rfl) trivial ?_
          exact ih a b i k want (IntKind.wrap .i64 (n_ + 1)) x_0 x_1 w h o hk
      · refine At.step hm ht ⟨[(8, .b false)], [false], [], [0, 1, 5, 8, 9, 12, 13], [0, 1]⟩ 21 ⟨[(0, .one (.c (.d (.sl (.pair (.int .i64) (.pair (.int .i64) (.pair (.int .i64) (.slice (.int .u8))))) a)))), (1, .one (.c (.d (.sl (.pair (.int .i64) (.pair (.int .i64) (.pair (.int .i64) (.slice (.int .u8))))) b)))), (5, .one (.c (.ptr 0 0))), (8, .one (.c (.d (.int .i64 i)))), (9, .one (.c (.d (.int .i64 k)))), (12, .one (.c (.own 1 (.pair (.int .i64) (.pair (.int .i64) (.pair (.int .i64) .str))) want))), (13, .one (.c (.d (.int .i64 n_))))], [(1, some ⟨84, 0⟩)], [(0, [.d (.int .i64 x_0), .d (.int .i64 x_1)])], 2⟩ [(0 : Int) ≤ n_ ∧ n_ < (((a).length : Nat) : Int), (decide ((((a.getD n_.toNat (0, (0, (0, [])))).1) : Int) ≥ x_0)) = false, false = false] (by kernel_rfl) ⟨g192_0, b192_8, rfl, trivial⟩ ?_
        refine At.step hm ht ⟨[], [], [], [0, 1, 5, 8, 9, 12, 13], [0, 1]⟩ 20 ⟨[(0, .one (.c (.d (.sl (.pair (.int .i64) (.pair (.int .i64) (.pair (.int .i64) (.slice (.int .u8))))) a)))), (1, .one (.c (.d (.sl (.pair (.int .i64) (.pair (.int .i64) (.pair (.int .i64) (.slice (.int .u8))))) b)))), (5, .one (.c (.ptr 0 0))), (8, .one (.c (.d (.int .i64 i)))), (9, .one (.c (.d (.int .i64 k)))), (12, .one (.c (.own 1 (.pair (.int .i64) (.pair (.int .i64) (.pair (.int .i64) .str))) want))), (13, .one (.c (.d (.int .i64 (IntKind.wrap .i64 (n_ + 1))))))], [(1, some ⟨84, 0⟩)], [(0, [.d (.int .i64 x_0), .d (.int .i64 x_1)])], 2⟩ [] (by kernel_rfl) trivial ?_
        exact ih a b i k want (IntKind.wrap .i64 (n_ + 1)) x_0 x_1 w h o hk
    · refine At.step hm ht ⟨[], [false], [], [0, 1, 5, 8, 9, 12], [0, 1]⟩ 24 ⟨[(0, .one (.c (.d (.sl (.pair (.int .i64) (.pair (.int .i64) (.pair (.int .i64) (.slice (.int .u8))))) a)))), (1, .one (.c (.d (.sl (.pair (.int .i64) (.pair (.int .i64) (.pair (.int .i64) (.slice (.int .u8))))) b)))), (5, .one (.c (.ptr 0 0))), (8, .one (.c (.d (.int .i64 i)))), (9, .one (.c (.d (.int .i64 k)))), (12, .one (.c (.own 1 (.pair (.int .i64) (.pair (.int .i64) (.pair (.int .i64) .str))) want)))], [(1, some ⟨84, 0⟩)], [(0, [.d (.int .i64 x_0), .d (.int .i64 x_1)])], 2⟩ [(decide ((n_ : Int) < ((a.length : Nat) : Int))) = false] (by kernel_rfl) ⟨b191_e0, trivial⟩ ?_
      have h := Option.some.inj h
      subst h
      exact hk
def f8_broughamlaw34_CaptureMerges (n : Nat) (a : List (Int × Int × Int × List Int)) (b : List (Int × Int × Int × List Int)) (x_0 : Int) (x_1 : Int) : Option (Bool) :=
  (f19_broughamlaw34_great n a).bind fun r129_0 =>
  if r129_0 = true then
    some true
  else
    (f19_broughamlaw34_great n b).bind fun r129_1 =>
    if r129_1 = true then
      some true
    else
      if (decide ((((a.length : Nat) : Int) : Int) > 100)) = true then
        some true
      else
        if (decide ((((b.length : Nat) : Int) : Int) > 100)) = true then
          some true
        else
          (f42_capture_Merge n a b).bind fun r134_0 =>
          (f22_broughamlaw34_plain n r134_0).bind fun r134_1 =>
          (f8_broughamlaw34_CaptureMerges_L6 n a b r134_1 0 0 0 x_0 x_1).bind fun w186 =>
          match w186 with
          | .inl e187 =>
            some e187
          | .inr e188 =>
            (f8_broughamlaw34_CaptureMerges_L20 n e188.1 e188.2.1 e188.2.2.1 e188.2.2.2.1 [] 0 e188.2.2.2.2.1 e188.2.2.2.2.2).bind fun w197 =>
            if ((w197.2.2.1 : Int) == ((w197.1.length : Nat) : Int)) = true then
              if ((w197.2.2.2.1 : Int) == ((w197.2.1.length : Nat) : Int)) = true then
                (f43_capture_Between n w197.1 w197.2.2.2.2.2.1 w197.2.2.2.2.2.2).bind fun r199_0 =>
                (f22_broughamlaw34_plain n r199_0).bind fun r199_1 =>
                (f30_broughamlaw34_same n r199_1 w197.2.2.2.2.1).bind fun r199_2 =>
                if r199_2 = true then
                  (f27_broughamlaw34_alive n).bind fun r199_3 =>
                  some r199_3
                else
                  some false
              else
                some false
            else
              some false
theorem f8_broughamlaw34_CaptureMerges_ok (n : Nat) (a : List (Int × Int × Int × List Int)) (b : List (Int × Int × Int × List Int)) (x_0 : Int) (x_1 : Int) (r : Bool) (h : f8_broughamlaw34_CaptureMerges n a b x_0 x_1 = some r) : FnOK Go.Proofs.Try.prog 8 (f8_broughamlaw34_CaptureMerges_in a b x_0 x_1) (f8_broughamlaw34_CaptureMerges_out r) := by
  unfold f8_broughamlaw34_CaptureMerges at h
  refine At.fn (r := 0) Go.Proofs.Try.func8 rfl (by kernel_rfl) rfl rfl (by kernel_rfl) ?_
  show At Go.Proofs.Try.prog Go.Proofs.Try.f8 0 0 ⟨[(0, .one (.c (.d (.sl (.pair (.int .i64) (.pair (.int .i64) (.pair (.int .i64) (.slice (.int .u8))))) a)))), (1, .one (.c (.d (.sl (.pair (.int .i64) (.pair (.int .i64) (.pair (.int .i64) (.slice (.int .u8))))) b)))), (2, .one (.agg [.d (.int .i64 x_0), .d (.int .i64 x_1)]))], [], [], 0⟩ _
  refine At.step hm ht ⟨[], [], [], [0, 1, 5], [0]⟩ 1 ⟨[(0, .one (.c (.d (.sl (.pair (.int .i64) (.pair (.int .i64) (.pair (.int .i64) (.slice (.int .u8))))) a)))), (1, .one (.c (.d (.sl (.pair (.int .i64) (.pair (.int .i64) (.pair (.int .i64) (.slice (.int .u8))))) b)))), (5, .one (.c (.ptr 0 0)))], [], [(0, [.d (.int .i64 x_0), .d (.int .i64 x_1)])], 1⟩ [] (by kernel_rfl) trivial ?_
  obtain ⟨r129_0, cr129_0, h⟩ := bindS h
  rcases iteS h with ⟨b129_2, h⟩ | ⟨b129_2, h⟩
  · refine At.step hm ht ⟨[(1, .call [] [] (f19_broughamlaw34_great_out r129_0)), (2, .b true)], [true], [], [], []⟩ 2 ⟨[], [], [], 0⟩ [FnOK Go.Proofs.Try.prog 19 (f19_broughamlaw34_great_in a) (f19_broughamlaw34_great_out r129_0), r129_0 = true, true = true] (by kernel_rfl) ⟨(f19_broughamlaw34_great_ok n a r129_0 cr129_0), b129_2, rfl, trivial⟩ ?_
    have h := Option.some.inj h
    subst h
    exact At.fin hm ht ⟨[], [], [], [6], []⟩ [] (by kernel_rfl) trivial
  · obtain ⟨r129_1, cr129_1, h⟩ := bindS h
    rcases iteS h with ⟨b129_6, h⟩ | ⟨b129_6, h⟩
    · refine At.step hm ht ⟨[(1, .call [] [] (f19_broughamlaw34_great_out r129_0)), (2, .b false), (4, .call [] [] (f19_broughamlaw34_great_out r129_1)), (6, .b true)], [true], [], [], []⟩ 2 ⟨[], [], [], 0⟩ [FnOK Go.Proofs.Try.prog 19 (f19_broughamlaw34_great_in a) (f19_broughamlaw34_great_out r129_0), r129_0 = false, FnOK Go.Proofs.Try.prog 19 (f19_broughamlaw34_great_in b) (f19_broughamlaw34_great_out r129_1), r129_1 = true, true = true] (by kernel_rfl) ⟨(f19_broughamlaw34_great_ok n a r129_0 cr129_0), b129_2, (f19_broughamlaw34_great_ok n b r129_1 cr129_1), b129_6, rfl, trivial⟩ ?_
      have h := Option.some.inj h
      subst h
      exact At.fin hm ht ⟨[], [], [], [6], []⟩ [] (by kernel_rfl) trivial
    · rcases iteS h with ⟨b129_11, h⟩ | ⟨b129_11, h⟩
      · refine At.step hm ht ⟨[(1, .call [] [] (f19_broughamlaw34_great_out r129_0)), (2, .b false), (4, .call [] [] (f19_broughamlaw34_great_out r129_1)), (6, .b false), (11, .b true)], [true], [], [], []⟩ 2 ⟨[], [], [], 0⟩ [FnOK Go.Proofs.Try.prog 19 (f19_broughamlaw34_great_in a) (f19_broughamlaw34_great_out r129_0), r129_0 = false, FnOK Go.Proofs.Try.prog 19 (f19_broughamlaw34_great_in b) (f19_broughamlaw34_great_out r129_1), r129_1 = false, (decide ((((a.length : Nat) : Int) : Int) > 100)) = true, true = true] (by kernel_rfl) ⟨(f19_broughamlaw34_great_ok n a r129_0 cr129_0), b129_2, (f19_broughamlaw34_great_ok n b r129_1 cr129_1), b129_6, b129_11, rfl, trivial⟩ ?_
        have h := Option.some.inj h
        subst h
        exact At.fin hm ht ⟨[], [], [], [6], []⟩ [] (by kernel_rfl) trivial
      · rcases iteS h with ⟨b129_e0, h⟩ | ⟨b129_e0, h⟩
        · refine At.step hm ht ⟨[(1, .call [] [] (f19_broughamlaw34_great_out r129_0)), (2, .b false), (4, .call [] [] (f19_broughamlaw34_great_out r129_1)), (6, .b false), (11, .b false)], [true], [], [], []⟩ 2 ⟨[], [], [], 0⟩ [FnOK Go.Proofs.Try.prog 19 (f19_broughamlaw34_great_in a) (f19_broughamlaw34_great_out r129_0), r129_0 = false, FnOK Go.Proofs.Try.prog 19 (f19_broughamlaw34_great_in b) (f19_broughamlaw34_great_out r129_1), r129_1 = false, (decide ((((a.length : Nat) : Int) : Int) > 100)) = false, (decide ((((b.length : Nat) : Int) : Int) > 100)) = true] (by kernel_rfl) ⟨(f19_broughamlaw34_great_ok n a r129_0 cr129_0), b129_2, (f19_broughamlaw34_great_ok n b r129_1 cr129_1), b129_6, b129_11, b129_e0, trivial⟩ ?_
          have h := Option.some.inj h
          subst h
          exact At.fin hm ht ⟨[], [], [], [6], []⟩ [] (by kernel_rfl) trivial
        · refine At.step hm ht ⟨[(1, .call [] [] (f19_broughamlaw34_great_out r129_0)), (2, .b false), (4, .call [] [] (f19_broughamlaw34_great_out r129_1)), (6, .b false), (11, .b false)], [false], [], [0, 1, 5], [0]⟩ 3 ⟨[(0, .one (.c (.d (.sl (.pair (.int .i64) (.pair (.int .i64) (.pair (.int .i64) (.slice (.int .u8))))) a)))), (1, .one (.c (.d (.sl (.pair (.int .i64) (.pair (.int .i64) (.pair (.int .i64) (.slice (.int .u8))))) b)))), (5, .one (.c (.ptr 0 0)))], [], [(0, [.d (.int .i64 x_0), .d (.int .i64 x_1)])], 1⟩ [FnOK Go.Proofs.Try.prog 19 (f19_broughamlaw34_great_in a) (f19_broughamlaw34_great_out r129_0), r129_0 = false, FnOK Go.Proofs.Try.prog 19 (f19_broughamlaw34_great_in b) (f19_broughamlaw34_great_out r129_1), r129_1 = false, (decide ((((a.length : Nat) : Int) : Int) > 100)) = false, (decide ((((b.length : Nat) : Int) : Int) > 100)) = false] (by kernel_rfl) ⟨(f19_broughamlaw34_great_ok n a r129_0 cr129_0), b129_2, (f19_broughamlaw34_great_ok n b r129_1 cr129_1), b129_6, b129_11, b129_e0, trivial⟩ ?_
          obtain ⟨r134_0, cr134_0, h⟩ := bindS h
          obtain ⟨r134_1, cr134_1, h⟩ := bindS h
          refine At.step hm ht ⟨[(2, .call [] [] (f42_capture_Merge_out r134_0)), (3, .call [] [] (f22_broughamlaw34_plain_out r134_1))], [], [], [0, 1, 5, 7], [0, 4]⟩ 4 ⟨[(0, .one (.c (.d (.sl (.pair (.int .i64) (.pair (.int .i64) (.pair (.int .i64) (.slice (.int .u8))))) a)))), (1, .one (.c (.d (.sl (.pair (.int .i64) (.pair (.int .i64) (.pair (.int .i64) (.slice (.int .u8))))) b)))), (5, .one (.c (.ptr 0 0))), (7, .one (.c (.own 1 (.pair (.int .i64) (.pair (.int .i64) (.pair (.int .i64) .str))) r134_1)))], [(1, some ⟨84, 0⟩)], [(0, [.d (.int .i64 x_0), .d (.int .i64 x_1)])], 2⟩ [FnOK Go.Proofs.Try.prog 42 (f42_capture_Merge_in a b) (f42_capture_Merge_out r134_0), FnOK Go.Proofs.Try.prog 22 (f22_broughamlaw34_plain_in r134_0) (f22_broughamlaw34_plain_out r134_1)] (by kernel_rfl) ⟨(f42_capture_Merge_ok n a b r134_0 cr134_0), (f22_broughamlaw34_plain_ok n r134_0 r134_1 cr134_1), trivial⟩ ?_
          refine At.step hm ht ⟨[], [], [], [0, 1, 5, 7, 8, 9], [0, 1]⟩ 5 ⟨[(0, .one (.c (.d (.sl (.pair (.int .i64) (.pair (.int .i64) (.pair (.int .i64) (.slice (.int .u8))))) a)))), (1, .one (.c (.d (.sl (.pair (.int .i64) (.pair (.int .i64) (.pair (.int .i64) (.slice (.int .u8))))) b)))), (5, .one (.c (.ptr 0 0))), (7, .one (.c (.own 1 (.pair (.int .i64) (.pair (.int .i64) (.pair (.int .i64) .str))) r134_1))), (8, .one (.c (.d (.int .i64 0)))), (9, .one (.c (.d (.int .i64 0))))], [(1, some ⟨84, 0⟩)], [(0, [.d (.int .i64 x_0), .d (.int .i64 x_1)])], 2⟩ [] (by kernel_rfl) trivial ?_
          refine At.step hm ht ⟨[], [], [], [0, 1, 5, 7, 8, 9, 10], [0, 1]⟩ 6 ⟨[(0, .one (.c (.d (.sl (.pair (.int .i64) (.pair (.int .i64) (.pair (.int .i64) (.slice (.int .u8))))) a)))), (1, .one (.c (.d (.sl (.pair (.int .i64) (.pair (.int .i64) (.pair (.int .i64) (.slice (.int .u8))))) b)))), (5, .one (.c (.ptr 0 0))), (7, .one (.c (.own 1 (.pair (.int .i64) (.pair (.int .i64) (.pair (.int .i64) .str))) r134_1))), (8, .one (.c (.d (.int .i64 0)))), (9, .one (.c (.d (.int .i64 0)))), (10, .one (.c (.d (.int .i64 0))))], [(1, some ⟨84, 0⟩)], [(0, [.d (.int .i64 x_0), .d (.int .i64 x_1)])], 2⟩ [] (by kernel_rfl) trivial ?_
          obtain ⟨w186, cw186, h⟩ := bindS h
          refine f8_broughamlaw34_CaptureMerges_L6_ok n a b r134_1 0 0 0 x_0 x_1 w186 cw186 _ ?_
          rcases w186 with e187 | e188
          · have h := Option.some.inj h
            subst h
            rfl
          · show At Go.Proofs.Try.prog Go.Proofs.Try.f8 0 18 ⟨[(0, .one (.c (.d (.sl (.pair (.int .i64) (.pair (.int .i64) (.pair (.int .i64) (.slice (.int .u8))))) e188.1)))), (1, .one (.c (.d (.sl (.pair (.int .i64) (.pair (.int .i64) (.pair (.int .i64) (.slice (.int .u8))))) e188.2.1)))), (5, .one (.c (.ptr 0 0))), (8, .one (.c (.d (.int .i64 e188.2.2.1)))), (9, .one (.c (.d (.int .i64 e188.2.2.2.1))))], [], [(0, [.d (.int .i64 e188.2.2.2.2.1), .d (.int .i64 e188.2.2.2.2.2)])], 1⟩ _
            refine At.step hm ht ⟨[], [], [], [0, 1, 5, 8, 9, 12], [0]⟩ 19 ⟨[(0, .one (.c (.d (.sl (.pair (.int .i64) (.pair (.int .i64) (.pair (.int .i64) (.slice (.int .u8))))) e188.1)))), (1, .one (.c (.d (.sl (.pair (.int .i64) (.pair (.int .i64) (.pair (.int .i64) (.slice (.int .u8))))) e188.2.1)))), (5, .one (.c (.ptr 0 0))), (8, .one (.c (.d (.int .i64 e188.2.2.1)))), (9, .one (.c (.d (.int .i64 e188.2.2.2.1)))), (12, .one (.c (.d (.sl .unit []))))], [], [(0, [.d (.int .i64 e188.2.2.2.2.1), .d (.int .i64 e188.2.2.2.2.2)])], 1⟩ [] (by kernel_rfl) trivial ?_
            refine At.step hm ht ⟨[], [], [.nil false 12 0 (.pair (.int .i64) (.pair (.int .i64) (.pair (.int .i64) .str))) (some 84)], [0, 1, 5, 8, 9, 12, 13], [0, 2]⟩ 20 ⟨[(0, .one (.c (.d (.sl (.pair (.int .i64) (.pair (.int .i64) (.pair (.int .i64) (.slice (.int .u8))))) e188.1)))), (1, .one (.c (.d (.sl (.pair (.int .i64) (.pair (.int .i64) (.pair (.int .i64) (.slice (.int .u8))))) e188.2.1)))), (5, .one (.c (.ptr 0 0))), (8, .one (.c (.d (.int .i64 e188.2.2.1)))), (9, .one (.c (.d (.int .i64 e188.2.2.2.1)))), (12, .one (.c (.own 1 (.pair (.int .i64) (.pair (.int .i64) (.pair (.int .i64) .str))) []))), (13, .one (.c (.d (.int .i64 0))))], [(1, some ⟨84, 0⟩)], [(0, [.d (.int .i64 e188.2.2.2.2.1), .d (.int .i64 e188.2.2.2.2.2)])], 2⟩ [] (by kernel_rfl) trivial ?_
            obtain ⟨w197, cw197, h⟩ := bindS h
            refine f8_broughamlaw34_CaptureMerges_L20_ok n e188.1 e188.2.1 e188.2.2.1 e188.2.2.2.1 [] 0 e188.2.2.2.2.1 e188.2.2.2.2.2 w197 cw197 _ ?_
            show At Go.Proofs.Try.prog Go.Proofs.Try.f8 0 24 ⟨[(0, .one (.c (.d (.sl (.pair (.int .i64) (.pair (.int .i64) (.pair (.int .i64) (.slice (.int .u8))))) w197.1)))), (1, .one (.c (.d (.sl (.pair (.int .i64) (.pair (.int .i64) (.pair (.int .i64) (.slice (.int .u8))))) w197.2.1)))), (5, .one (.c (.ptr 0 0))), (8, .one (.c (.d (.int .i64 w197.2.2.1)))), (9, .one (.c (.d (.int .i64 w197.2.2.2.1)))), (12, .one (.c (.own 1 (.pair (.int .i64) (.pair (.int .i64) (.pair (.int .i64) .str))) w197.2.2.2.2.1)))], [(1, some ⟨84, 0⟩)], [(0, [.d (.int .i64 w197.2.2.2.2.2.1), .d (.int .i64 w197.2.2.2.2.2.2)])], 2⟩ _
            rcases iteS h with ⟨b199_4, h⟩ | ⟨b199_4, h⟩
            · rcases iteS h with ⟨b199_10, h⟩ | ⟨b199_10, h⟩
              · obtain ⟨r199_0, cr199_0, h⟩ := bindS h
                obtain ⟨r199_1, cr199_1, h⟩ := bindS h
                obtain ⟨r199_2, cr199_2, h⟩ := bindS h
                rcases iteS h with ⟨b199_21, h⟩ | ⟨b199_21, h⟩
                · obtain ⟨r199_3, cr199_3, h⟩ := bindS h
                  have h := Option.some.inj h
                  subst h
                  exact At.fin hm ht ⟨[(4, .b true), (10, .b true), (16, .call [] [] (f43_capture_Between_out r199_0)), (17, .call [] [] (f22_broughamlaw34_plain_out r199_1)), (19, .call [] [] (f30_broughamlaw34_same_out r199_2)), (21, .b true), (22, .call [] [] (f27_broughamlaw34_alive_out r199_3))], [], [], [6], []⟩ [((w197.2.2.1 : Int) == ((w197.1.length : Nat) : Int)) = true, ((w197.2.2.2.1 : Int) == ((w197.2.1.length : Nat) : Int)) = true, FnOK Go.Proofs.Try.prog 43 (f43_capture_Between_in w197.1 w197.2.2.2.2.2.1 w197.2.2.2.2.2.2) (f43_capture_Between_out r199_0), FnOK Go.Proofs.Try.prog 22 (f22_broughamlaw34_plain_in r199_0) (f22_broughamlaw34_plain_out r199_1), FnOK Go.Proofs.Try.prog 30 (f30_broughamlaw34_same_in r199_1 w197.2.2.2.2.1) (f30_broughamlaw34_same_out r199_2), r199_2 = true, FnOK Go.Proofs.Try.prog 27 (f27_broughamlaw34_alive_in) (f27_broughamlaw34_alive_out r199_3)] (by kernel_rfl) ⟨b199_4, b199_10, (f43_capture_Between_ok n w197.1 w197.2.2.2.2.2.1 w197.2.2.2.2.2.2 r199_0 cr199_0), (f22_broughamlaw34_plain_ok n r199_0 r199_1 cr199_1), (f30_broughamlaw34_same_ok n r199_1 w197.2.2.2.2.1 r199_2 cr199_2), b199_21, (f27_broughamlaw34_alive_ok n r199_3 cr199_3), trivial⟩
                · have h := Option.some.inj h
                  subst h
                  exact At.fin hm ht ⟨[(4, .b true), (10, .b true), (16, .call [] [] (f43_capture_Between_out r199_0)), (17, .call [] [] (f22_broughamlaw34_plain_out r199_1)), (19, .call [] [] (f30_broughamlaw34_same_out r199_2)), (21, .b false)], [], [], [6], []⟩ [((w197.2.2.1 : Int) == ((w197.1.length : Nat) : Int)) = true, ((w197.2.2.2.1 : Int) == ((w197.2.1.length : Nat) : Int)) = true, FnOK Go.Proofs.Try.prog 43 (f43_capture_Between_in w197.1 w197.2.2.2.2.2.1 w197.2.2.2.2.2.2) (f43_capture_Between_out r199_0), FnOK Go.Proofs.Try.prog 22 (f22_broughamlaw34_plain_in r199_0) (f22_broughamlaw34_plain_out r199_1), FnOK Go.Proofs.Try.prog 30 (f30_broughamlaw34_same_in r199_1 w197.2.2.2.2.1) (f30_broughamlaw34_same_out r199_2), r199_2 = false] (by kernel_rfl) ⟨b199_4, b199_10, (f43_capture_Between_ok n w197.1 w197.2.2.2.2.2.1 w197.2.2.2.2.2.2 r199_0 cr199_0), (f22_broughamlaw34_plain_ok n r199_0 r199_1 cr199_1), (f30_broughamlaw34_same_ok n r199_1 w197.2.2.2.2.1 r199_2 cr199_2), b199_21, trivial⟩
              · have h := Option.some.inj h
                subst h
                exact At.fin hm ht ⟨[(4, .b true), (10, .b false)], [], [], [6], []⟩ [((w197.2.2.1 : Int) == ((w197.1.length : Nat) : Int)) = true, ((w197.2.2.2.1 : Int) == ((w197.2.1.length : Nat) : Int)) = false] (by kernel_rfl) ⟨b199_4, b199_10, trivial⟩
            · have h := Option.some.inj h
              subst h
              exact At.fin hm ht ⟨[(4, .b false)], [], [], [6], []⟩ [((w197.2.2.1 : Int) == ((w197.1.length : Nat) : Int)) = false] (by kernel_rfl) ⟨b199_4, trivial⟩
/-! brougham/broughamlaw34.CaptureBack -/
def f6_broughamlaw34_CaptureBack_in (l : List (Int × Int × Int × List Int)) (b : List Int) : Inn := ⟨[.c (.d (.sl (.pair (.int .i64) (.pair (.int .i64) (.pair (.int .i64) (.slice (.int .u8))))) l)), .c (.d (.sl (.int .u8) b))], [], [], 0⟩
def f6_broughamlaw34_CaptureBack_out (r : Bool) : Out := ⟨.one (.c (.d (.bool r))), [], [], 0⟩
def f6_broughamlaw34_CaptureBack (n : Nat) (l : List (Int × Int × Int × List Int)) (b : List Int) : Option (Bool) :=
  (f19_broughamlaw34_great n l).bind fun r515_0 =>
  if r515_0 = true then
    some true
  else
    if (decide ((((b.length : Nat) : Int) : Int) > 5000)) = true then
      some true
    else
      (f20_capture_Encode n l).bind fun r518_0 =>
      (f28_capture_Decode n r518_0.1).bind fun r519_0 =>
      if r518_0.2 = true then
        if (!r519_0.2) = true then
          some false
        else
          (f22_broughamlaw34_plain n l).bind fun r520_0 =>
          (f22_broughamlaw34_plain n r519_0.1).bind fun r520_1 =>
          (f30_broughamlaw34_same n r520_0 r520_1).bind fun r520_2 =>
          if (!r520_2) = true then
            some false
          else
            (f28_capture_Decode n b).bind fun r523_0 =>
            (f20_capture_Encode n r523_0.1).bind fun r524_0 =>
            if (!r523_0.2) = true then
              (f27_broughamlaw34_alive n).bind fun r525_0 =>
              some r525_0
            else
              if r524_0.2 = true then
                if ((strOfNums r524_0.1).toList == (strOfNums b).toList) = true then
                  (f27_broughamlaw34_alive n).bind fun r525_0 =>
                  some r525_0
                else
                  some false
              else
                some false
      else
        (f28_capture_Decode n b).bind fun r526_0 =>
        (f20_capture_Encode n r526_0.1).bind fun r527_0 =>
        if (!r526_0.2) = true then
          (f27_broughamlaw34_alive n).bind fun r528_0 =>
          some r528_0
        else
          if r527_0.2 = true then
            if ((strOfNums r527_0.1).toList == (strOfNums b).toList) = true then
              (f27_broughamlaw34_alive n).bind fun r528_0 =>
              some r528_0
            else
              some false
          else
            some false
theorem f6_broughamlaw34_CaptureBack_ok (n : Nat) (l : List (Int × Int × Int × List Int)) (b : List Int) (r : Bool) (h : f6_broughamlaw34_CaptureBack n l b = some r) : FnOK Go.Proofs.Try.prog 6 (f6_broughamlaw34_CaptureBack_in l b) (f6_broughamlaw34_CaptureBack_out r) := by
  unfold f6_broughamlaw34_CaptureBack at h
  refine At.fn (r := 0) Go.Proofs.Try.func6 rfl (by kernel_rfl) rfl rfl (by kernel_rfl) ?_
  show At Go.Proofs.Try.prog Go.Proofs.Try.f6 0 0 ⟨[(0, .one (.c (.d (.sl (.pair (.int .i64) (.pair (.int .i64) (.pair (.int .i64) (.slice (.int .u8))))) l)))), (1, .one (.c (.d (.sl (.int .u8) b))))], [], [], 0⟩ _
  refine At.step hm ht ⟨[], [], [], [0, 1], []⟩ 1 ⟨[(0, .one (.c (.d (.sl (.pair (.int .i64) (.pair (.int .i64) (.pair (.int .i64) (.slice (.int .u8))))) l)))), (1, .one (.c (.d (.sl (.int .u8) b))))], [], [], 0⟩ [] (by kernel_rfl) trivial ?_
  obtain ⟨r515_0, cr515_0, h⟩ := bindS h
  rcases iteS h with ⟨b515_2, h⟩ | ⟨b515_2, h⟩
  · refine At.step hm ht ⟨[(1, .call [] [] (f19_broughamlaw34_great_out r515_0)), (2, .b true)], [true], [], [], []⟩ 2 ⟨[], [], [], 0⟩ [FnOK Go.Proofs.Try.prog 19 (f19_broughamlaw34_great_in l) (f19_broughamlaw34_great_out r515_0), r515_0 = true, true = true] (by kernel_rfl) ⟨(f19_broughamlaw34_great_ok n l r515_0 cr515_0), b515_2, rfl, trivial⟩ ?_
    have h := Option.some.inj h
    subst h
    exact At.fin hm ht ⟨[], [], [], [4], []⟩ [] (by kernel_rfl) trivial
  · rcases iteS h with ⟨b515_e0, h⟩ | ⟨b515_e0, h⟩
    · refine At.step hm ht ⟨[(1, .call [] [] (f19_broughamlaw34_great_out r515_0)), (2, .b false)], [true], [], [], []⟩ 2 ⟨[], [], [], 0⟩ [FnOK Go.Proofs.Try.prog 19 (f19_broughamlaw34_great_in l) (f19_broughamlaw34_great_out r515_0), r515_0 = false, (decide ((((b.length : Nat) : Int) : Int) > 5000)) = true] (by kernel_rfl) ⟨(f19_broughamlaw34_great_ok n l r515_0 cr515_0), b515_2, b515_e0, trivial⟩ ?_
      have h := Option.some.inj h
      subst h
      exact At.fin hm ht ⟨[], [], [], [4], []⟩ [] (by kernel_rfl) trivial
    · refine At.step hm ht ⟨[(1, .call [] [] (f19_broughamlaw34_great_out r515_0)), (2, .b false)], [false], [], [0, 1], []⟩ 3 ⟨[(0, .one (.c (.d (.sl (.pair (.int .i64) (.pair (.int .i64) (.pair (.int .i64) (.slice (.int .u8))))) l)))), (1, .one (.c (.d (.sl (.int .u8) b))))], [], [], 0⟩ [FnOK Go.Proofs.Try.prog 19 (f19_broughamlaw34_great_in l) (f19_broughamlaw34_great_out r515_0), r515_0 = false, (decide ((((b.length : Nat) : Int) : Int) > 5000)) = false] (by kernel_rfl) ⟨(f19_broughamlaw34_great_ok n l r515_0 cr515_0), b515_2, b515_e0, trivial⟩ ?_
      obtain ⟨r518_0, cr518_0, h⟩ := bindS h
      refine At.step hm ht ⟨[(1, .call [] [] (f20_capture_Encode_out r518_0))], [], [], [0, 1, 5, 6], [1]⟩ 4 ⟨[(0, .one (.c (.d (.sl (.pair (.int .i64) (.pair (.int .i64) (.pair (.int .i64) (.slice (.int .u8))))) l)))), (1, .one (.c (.d (.sl (.int .u8) b)))), (5, .one (.c (.own 0 (.int .u8) r518_0.1))), (6, .one (.c (.d (.bool r518_0.2))))], [(0, some ⟨5, 0⟩)], [], 1⟩ [FnOK Go.Proofs.Try.prog 20 (f20_capture_Encode_in l) (f20_capture_Encode_out r518_0)] (by kernel_rfl) ⟨(f20_capture_Encode_ok n l r518_0 cr518_0), trivial⟩ ?_
      obtain ⟨r519_0, cr519_0, h⟩ := bindS h
      refine At.step hm ht ⟨[(1, .call [] [] (f28_capture_Decode_out r519_0))], [], [], [0, 1, 6, 7, 8], [2]⟩ 5 ⟨[(0, .one (.c (.d (.sl (.pair (.int .i64) (.pair (.int .i64) (.pair (.int .i64) (.slice (.int .u8))))) l)))), (1, .one (.c (.d (.sl (.int .u8) b)))), (6, .one (.c (.d (.bool r518_0.2)))), (7, .one (.c (.own 0 (.pair (.int .i64) (.pair (.int .i64) (.pair (.int .i64) (.slice (.int .u8))))) r519_0.1))), (8, .one (.c (.d (.bool r519_0.2))))], [(0, some ⟨82, 0⟩)], [], 1⟩ [FnOK Go.Proofs.Try.prog 28 (f28_capture_Decode_in r518_0.1) (f28_capture_Decode_out r519_0)] (by kernel_rfl) ⟨(f28_capture_Decode_ok n r518_0.1 r519_0 cr519_0), trivial⟩ ?_
      rcases iteS h with ⟨b520_1, h⟩ | ⟨b520_1, h⟩
      · rcases iteS h with ⟨b520_4, h⟩ | ⟨b520_4, h⟩
        · refine At.step hm ht ⟨[(1, .b true), (4, .b true)], [true], [], [], []⟩ 6 ⟨[], [], [], 0⟩ [r518_0.2 = true, (!r519_0.2) = true, true = true] (by kernel_rfl) ⟨b520_1, b520_4, rfl, trivial⟩ ?_
          have h := Option.some.inj h
          subst h
          exact At.fin hm ht ⟨[], [], [], [4], []⟩ [] (by kernel_rfl) trivial
        · obtain ⟨r520_0, cr520_0, h⟩ := bindS h
          obtain ⟨r520_1, cr520_1, h⟩ := bindS h
          obtain ⟨r520_2, cr520_2, h⟩ := bindS h
          rcases iteS h with ⟨b520_e0, h⟩ | ⟨b520_e0, h⟩
          · refine At.step hm ht ⟨[(1, .b true), (4, .b false), (6, .call [] [] (f22_broughamlaw34_plain_out r520_0)), (8, .call [] [] (f22_broughamlaw34_plain_out r520_1)), (9, .call [] [] (f30_broughamlaw34_same_out r520_2))], [true], [], [], []⟩ 6 ⟨[], [], [], 0⟩ [r518_0.2 = true, (!r519_0.2) = false, FnOK Go.Proofs.Try.prog 22 (f22_broughamlaw34_plain_in l) (f22_broughamlaw34_plain_out r520_0), FnOK Go.Proofs.Try.prog 22 (f22_broughamlaw34_plain_in r519_0.1) (f22_broughamlaw34_plain_out r520_1), FnOK Go.Proofs.Try.prog 30 (f30_broughamlaw34_same_in r520_0 r520_1) (f30_broughamlaw34_same_out r520_2), (!r520_2) = true] (by kernel_rfl) ⟨b520_1, b520_4, (f22_broughamlaw34_plain_ok n l r520_0 cr520_0), (f22_broughamlaw34_plain_ok n r519_0.1 r520_1 cr520_1), (f30_broughamlaw34_same_ok n r520_0 r520_1 r520_2 cr520_2), b520_e0, trivial⟩ ?_
            have h := Option.some.inj h
            subst h
            exact At.fin hm ht ⟨[], [], [], [4], []⟩ [] (by kernel_rfl) trivial
          · refine At.step hm ht ⟨[(1, .b true), (4, .b false), (6, .call [] [] (f22_broughamlaw34_plain_out r520_0)), (8, .call [] [] (f22_broughamlaw34_plain_out r520_1)), (9, .call [] [] (f30_broughamlaw34_same_out r520_2))], [false], [], [1], []⟩ 7 ⟨[(1, .one (.c (.d (.sl (.int .u8) b))))], [], [], 0⟩ [r518_0.2 = true, (!r519_0.2) = false, FnOK Go.Proofs.Try.prog 22 (f22_broughamlaw34_plain_in l) (f22_broughamlaw34_plain_out r520_0), FnOK Go.Proofs.Try.prog 22 (f22_broughamlaw34_plain_in r519_0.1) (f22_broughamlaw34_plain_out r520_1), FnOK Go.Proofs.Try.prog 30 (f30_broughamlaw34_same_in r520_0 r520_1) (f30_broughamlaw34_same_out r520_2), (!r520_2) = false] (by kernel_rfl) ⟨b520_1, b520_4, (f22_broughamlaw34_plain_ok n l r520_0 cr520_0), (f22_broughamlaw34_plain_ok n r519_0.1 r520_1 cr520_1), (f30_broughamlaw34_same_ok n r520_0 r520_1 r520_2 cr520_2), b520_e0, trivial⟩ ?_
            obtain ⟨r523_0, cr523_0, h⟩ := bindS h
            refine At.step hm ht ⟨[(1, .call [] [] (f28_capture_Decode_out r523_0))], [], [], [1, 9, 10], [1]⟩ 8 ⟨[(1, .one (.c (.d (.sl (.int .u8) b)))), (9, .one (.c (.own 0 (.pair (.int .i64) (.pair (.int .i64) (.pair (.int .i64) (.slice (.int .u8))))) r523_0.1))), (10, .one (.c (.d (.bool r523_0.2))))], [(0, some ⟨82, 0⟩)], [], 1⟩ [FnOK Go.Proofs.Try.prog 28 (f28_capture_Decode_in b) (f28_capture_Decode_out r523_0)] (by kernel_rfl) ⟨(f28_capture_Decode_ok n b r523_0 cr523_0), trivial⟩ ?_
            obtain ⟨r524_0, cr524_0, h⟩ := bindS h
            refine At.step hm ht ⟨[(1, .call [] [] (f20_capture_Encode_out r524_0))], [], [], [1, 10, 11, 12], [2]⟩ 9 ⟨[(1, .one (.c (.d (.sl (.int .u8) b)))), (10, .one (.c (.d (.bool r523_0.2)))), (11, .one (.c (.own 0 (.int .u8) r524_0.1))), (12, .one (.c (.d (.bool r524_0.2))))], [(0, some ⟨5, 0⟩)], [], 1⟩ [FnOK Go.Proofs.Try.prog 20 (f20_capture_Encode_in r523_0.1) (f20_capture_Encode_out r524_0)] (by kernel_rfl) ⟨(f20_capture_Encode_ok n r523_0.1 r524_0 cr524_0), trivial⟩ ?_
            rcases iteS h with ⟨b525_2, h⟩ | ⟨b525_2, h⟩
            · obtain ⟨r525_0, cr525_0, h⟩ := bindS h
              have h := Option.some.inj h
              subst h
              exact At.fin hm ht ⟨[(2, .b true), (13, .call [] [] (f27_broughamlaw34_alive_out r525_0))], [], [], [4], []⟩ [(!r523_0.2) = true, FnOK Go.Proofs.Try.prog 27 (f27_broughamlaw34_alive_in) (f27_broughamlaw34_alive_out r525_0)] (by kernel_rfl) ⟨b525_2, (f27_broughamlaw34_alive_ok n r525_0 cr525_0), trivial⟩
            · rcases iteS h with ⟨b525_4, h⟩ | ⟨b525_4, h⟩
              · rcases iteS h with ⟨b525_12, h⟩ | ⟨b525_12, h⟩
                · obtain ⟨r525_0, cr525_0, h⟩ := bindS h
                  have h := Option.some.inj h
                  subst h
                  exact At.fin hm ht ⟨[(2, .b false), (4, .b true), (12, .b true), (13, .call [] [] (f27_broughamlaw34_alive_out r525_0))], [], [], [4], []⟩ [(!r523_0.2) = false, r524_0.2 = true, ((strOfNums r524_0.1).toList == (strOfNums b).toList) = true, FnOK Go.Proofs.Try.prog 27 (f27_broughamlaw34_alive_in) (f27_broughamlaw34_alive_out r525_0)] (by kernel_rfl) ⟨b525_2, b525_4, b525_12, (f27_broughamlaw34_alive_ok n r525_0 cr525_0), trivial⟩
                · have h := Option.some.inj h
                  subst h
                  exact At.fin hm ht ⟨[(2, .b false), (4, .b true), (12, .b false)], [], [], [4], []⟩ [(!r523_0.2) = false, r524_0.2 = true, ((strOfNums r524_0.1).toList == (strOfNums b).toList) = false] (by kernel_rfl) ⟨b525_2, b525_4, b525_12, trivial⟩
              · have h := Option.some.inj h
                subst h
                exact At.fin hm ht ⟨[(2, .b false), (4, .b false)], [], [], [4], []⟩ [(!r523_0.2) = false, r524_0.2 = false] (by kernel_rfl) ⟨b525_2, b525_4, trivial⟩
      · refine At.step hm ht ⟨[(1, .b false)], [false], [], [1], []⟩ 7 ⟨[(1, .one (.c (.d (.sl (.int .u8) b))))], [], [], 0⟩ [r518_0.2 = false, false = false] (by kernel_rfl) ⟨b520_1, rfl, trivial⟩ ?_
        obtain ⟨r526_0, cr526_0, h⟩ := bindS h
        refine At.step hm ht ⟨[(1, .call [] [] (f28_capture_Decode_out r526_0))], [], [], [1, 9, 10], [1]⟩ 8 ⟨[(1, .one (.c (.d (.sl (.int .u8) b)))), (9, .one (.c (.own 0 (.pair (.int .i64) (.pair (.int .i64) (.pair (.int .i64) (.slice (.int .u8))))) r526_0.1))), (10, .one (.c (.d (.bool r526_0.2))))], [(0, some ⟨82, 0⟩)], [], 1⟩ [FnOK Go.Proofs.Try.prog 28 (f28_capture_Decode_in b) (f28_capture_Decode_out r526_0)] (by kernel_rfl) ⟨(f28_capture_Decode_ok n b r526_0 cr526_0), trivial⟩ ?_
        obtain ⟨r527_0, cr527_0, h⟩ := bindS h
        refine At.step hm ht ⟨[(1, .call [] [] (f20_capture_Encode_out r527_0))], [], [], [1, 10, 11, 12], [2]⟩ 9 ⟨[(1, .one (.c (.d (.sl (.int .u8) b)))), (10, .one (.c (.d (.bool r526_0.2)))), (11, .one (.c (.own 0 (.int .u8) r527_0.1))), (12, .one (.c (.d (.bool r527_0.2))))], [(0, some ⟨5, 0⟩)], [], 1⟩ [FnOK Go.Proofs.Try.prog 20 (f20_capture_Encode_in r526_0.1) (f20_capture_Encode_out r527_0)] (by kernel_rfl) ⟨(f20_capture_Encode_ok n r526_0.1 r527_0 cr527_0), trivial⟩ ?_
        rcases iteS h with ⟨b528_2, h⟩ | ⟨b528_2, h⟩
        · obtain ⟨r528_0, cr528_0, h⟩ := bindS h
          have h := Option.some.inj h
          subst h
          exact At.fin hm ht ⟨[(2, .b true), (13, .call [] [] (f27_broughamlaw34_alive_out r528_0))], [], [], [4], []⟩ [(!r526_0.2) = true, FnOK Go.Proofs.Try.prog 27 (f27_broughamlaw34_alive_in) (f27_broughamlaw34_alive_out r528_0)] (by kernel_rfl) ⟨b528_2, (f27_broughamlaw34_alive_ok n r528_0 cr528_0), trivial⟩
        · rcases iteS h with ⟨b528_4, h⟩ | ⟨b528_4, h⟩
          · rcases iteS h with ⟨b528_12, h⟩ | ⟨b528_12, h⟩
            · obtain ⟨r528_0, cr528_0, h⟩ := bindS h
              have h := Option.some.inj h
              subst h
              exact At.fin hm ht ⟨[(2, .b false), (4, .b true), (12, .b true), (13, .call [] [] (f27_broughamlaw34_alive_out r528_0))], [], [], [4], []⟩ [(!r526_0.2) = false, r527_0.2 = true, ((strOfNums r527_0.1).toList == (strOfNums b).toList) = true, FnOK Go.Proofs.Try.prog 27 (f27_broughamlaw34_alive_in) (f27_broughamlaw34_alive_out r528_0)] (by kernel_rfl) ⟨b528_2, b528_4, b528_12, (f27_broughamlaw34_alive_ok n r528_0 cr528_0), trivial⟩
            · have h := Option.some.inj h
              subst h
              exact At.fin hm ht ⟨[(2, .b false), (4, .b true), (12, .b false)], [], [], [4], []⟩ [(!r526_0.2) = false, r527_0.2 = true, ((strOfNums r527_0.1).toList == (strOfNums b).toList) = false] (by kernel_rfl) ⟨b528_2, b528_4, b528_12, trivial⟩
          · have h := Option.some.inj h
            subst h
            exact At.fin hm ht ⟨[(2, .b false), (4, .b false)], [], [], [4], []⟩ [(!r526_0.2) = false, r527_0.2 = false] (by kernel_rfl) ⟨b528_2, b528_4, trivial⟩
/-! brougham/broughamref34.Right -/
def f24_broughamref34_Right_in (l : List (Int × Int × Int × ByteArray)) : Inn := ⟨[.c (.d (.sl (.pair (.int .i64) (.pair (.int .i64) (.pair (.int .i64) .str))) l))], [], [], 0⟩
def f24_broughamref34_Right_out (r : Bool) : Out := ⟨.one (.c (.d (.bool r))), [], [], 0⟩
def f24_broughamref34_Right_L2 : Nat → (List (Int × Int × Int × ByteArray)) → Int → Option ((Bool) ⊕ (List (Int × Int × Int × ByteArray)))
  | 0, _, _ => none
  | n + 1, l, i =>
    if (decide ((i : Int) < ((l.length : Nat) : Int))) = true then
      if (0 : Int) ≤ i ∧ i < (((l).length : Nat) : Int) then
      if (decide ((((l.getD i.toNat (0, (0, (0, ByteArray.empty)))).1) : Int) < 0)) = true then
        some (.inl false)
      else
        if (decide ((((l.getD i.toNat (0, (0, (0, ByteArray.empty)))).1) : Int) > 2147483647)) = true then
          some (.inl false)
        else
          if (decide ((i : Int) > 0)) = true then
            if (0 : Int) ≤ (IntKind.wrap .i64 (i - 1)) ∧ (IntKind.wrap .i64 (i - 1)) < (((l).length : Nat) : Int) then
            if (decide ((((l.getD i.toNat (0, (0, (0, ByteArray.empty)))).1) : Int) < ((l.getD (IntKind.wrap .i64 (i - 1)).toNat (0, (0, (0, ByteArray.empty)))).1))) = true then
              some (.inl false)
            else
              if (decide (((((l.getD i.toNat (0, (0, (0, ByteArray.empty)))).2).1) : Int) < 0)) = true then
                some (.inl false)
              else
                if (decide (((((l.getD i.toNat (0, (0, (0, ByteArray.empty)))).2).1) : Int) > 1)) = true then
                  some (.inl false)
                else
                  if (decide ((((((l.getD i.toNat (0, (0, (0, ByteArray.empty)))).2).2).1) : Int) < 0)) = true then
                    some (.inl false)
                  else
                    if (decide ((((((l.getD i.toNat (0, (0, (0, ByteArray.empty)))).2).2).1) : Int) > 3)) = true then
                      some (.inl false)
                    else
                      if (decide ((((((((l.getD i.toNat (0, (0, (0, ByteArray.empty)))).2).2).2).size : Nat) : Int) : Int) > 2048)) = true then
                        some (.inl false)
                      else
                        f24_broughamref34_Right_L2 n l (IntKind.wrap .i64 (i + 1))
            else none
          else
            if (decide (((((l.getD i.toNat (0, (0, (0, ByteArray.empty)))).2).1) : Int) < 0)) = true then
              some (.inl false)
            else
              if (decide (((((l.getD i.toNat (0, (0, (0, ByteArray.empty)))).2).1) : Int) > 1)) = true then
                some (.inl false)
              else
                if (decide ((((((l.getD i.toNat (0, (0, (0, ByteArray.empty)))).2).2).1) : Int) < 0)) = true then
                  some (.inl false)
                else
                  if (decide ((((((l.getD i.toNat (0, (0, (0, ByteArray.empty)))).2).2).1) : Int) > 3)) = true then
                    some (.inl false)
                  else
                    if (decide ((((((((l.getD i.toNat (0, (0, (0, ByteArray.empty)))).2).2).2).size : Nat) : Int) : Int) > 2048)) = true then
                      some (.inl false)
                    else
                      f24_broughamref34_Right_L2 n l (IntKind.wrap .i64 (i + 1))
      else none
    else
      some (.inr l)
def f24_broughamref34_Right_L2_k (w : (Bool) ⊕ (List (Int × Int × Int × ByteArray))) (o : Out) : Prop := match w with
  | .inl e => o = f24_broughamref34_Right_out e
  | .inr e => At Go.Proofs.Try.prog Go.Proofs.Try.f24 0 7 ⟨[(0, .one (.c (.d (.sl (.pair (.int .i64) (.pair (.int .i64) (.pair (.int .i64) .str))) e))))], [], [], 0⟩ o
theorem f24_broughamref34_Right_L2_ok (n : Nat) : ∀ (l : List (Int × Int × Int × ByteArray)) (i : Int) (w : (Bool) ⊕ (List (Int × Int × Int × ByteArray))) (h : f24_broughamref34_Right_L2 n l i = some w) (o : Out) (hk : f24_broughamref34_Right_L2_k w o), At Go.Proofs.Try.prog Go.Proofs.Try.f24 0 2 ⟨[(0, .one (.c (.d (.sl (.pair (.int .i64) (.pair (.int .i64) (.pair (.int .i64) .str))) l)))), (3, .one (.c (.d (.int .i64 i))))], [], [], 0⟩ o := by
  induction n with
  | zero => intro l i w h; rw [f24_broughamref34_Right_L2] at h; cases h
  | succ n ih =>
    intro l i w h o hk
    rw [f24_broughamref34_Right_L2] at h
    rcases iteS h with ⟨b539_e0, h⟩ | ⟨b539_e0, h⟩
    · refine At.step hm ht ⟨[], [true], [], [0, 3], []⟩ 4 ⟨[(0, .one (.c (.d (.sl (.pair (.int .i64) (.pair (.int .i64) (.pair (.int .i64) .str))) l)))), (3, .one (.c (.d (.int .i64 i))))], [], [], 0⟩ [(decide ((i : Int) < ((l.length : Nat) : Int))) = true] (by kernel_rfl) ⟨b539_e0, trivial⟩ ?_
      obtain ⟨g540_0, h⟩ := ifS h
      refine At.step hm ht ⟨[], [], [], [0, 3, 4], [4]⟩ 5 ⟨[(0, .one (.c (.d (.sl (.pair (.int .i64) (.pair (.int .i64) (.pair (.int .i64) .str))) l)))), (3, .one (.c (.d (.int .i64 i)))), (4, .one (.c (.ptr 0 0)))], [], [(0, [.d (.int .i64 ((l.getD i.toNat (0, (0, (0, ByteArray.empty)))).1)), .d (.int .i64 (((l.getD i.toNat (0, (0, (0, ByteArray.empty)))).2).1)), .d (.int .i64 ((((l.getD i.toNat (0, (0, (0, ByteArray.empty)))).2).2).1)), .d (.str ((((l.getD i.toNat (0, (0, (0, ByteArray.empty)))).2).2).2))])], 1⟩ [(0 : Int) ≤ i ∧ i < (((l).length : Nat) : Int), 0 + 4 ≤ 4] (by kernel_rfl) ⟨g540_0, (by decide), trivial⟩ ?_
      rcases iteS h with ⟨b541_3, h⟩ | ⟨b541_3, h⟩
      · refine At.step hm ht ⟨[(3, .b true)], [true], [], [], []⟩ 6 ⟨[], [], [], 0⟩ [(decide ((((l.getD i.toNat (0, (0, (0, ByteArray.empty)))).1) : Int) < 0)) = true, true = true] (by kernel_rfl) ⟨b541_3, rfl, trivial⟩ ?_
        have h := Option.some.inj h
        subst h
        have hk : o = f24_broughamref34_Right_out false := hk
        subst hk
        exact At.fin hm ht ⟨[], [], [], [2], []⟩ [] (by kernel_rfl) trivial
      · rcases iteS h with ⟨b541_8, h⟩ | ⟨b541_8, h⟩
        · refine At.step hm ht ⟨[(3, .b false), (8, .b true)], [true], [], [], []⟩ 6 ⟨[], [], [], 0⟩ [(decide ((((l.getD i.toNat (0, (0, (0, ByteArray.empty)))).1) : Int) < 0)) = false, (decide ((((l.getD i.toNat (0, (0, (0, ByteArray.empty)))).1) : Int) > 2147483647)) = true, true = true] (by kernel_rfl) ⟨b541_3, b541_8, rfl, trivial⟩ ?_
          have h := Option.some.inj h
          subst h
          have hk : o = f24_broughamref34_Right_out false := hk
          subst hk
          exact At.fin hm ht ⟨[], [], [], [2], []⟩ [] (by kernel_rfl) trivial
        · rcases iteS h with ⟨b541_11, h⟩ | ⟨b541_11, h⟩
          · obtain ⟨g541_0, h⟩ := ifS h
            rcases iteS h with ⟨b541_23, h⟩ | ⟨b541_23, h⟩
            · refine At.step hm ht ⟨[(3, .b false), (8, .b false), (11, .b true), (23, .b true)], [true], [], [], []⟩ 6 ⟨[], [], [], 0⟩ [(decide ((((l.getD i.toNat (0, (0, (0, ByteArray.empty)))).1) : Int) < 0)) = false, (decide ((((l.getD i.toNat (0, (0, (0, ByteArray.empty)))).1) : Int) > 2147483647)) = false, (decide ((i : Int) > 0)) = true, (0 : Int) ≤ (IntKind.wrap .i64 (i - 1)) ∧ (IntKind.wrap .i64 (i - 1)) < (((l).length : Nat) : Int), (decide ((((l.getD i.toNat (0, (0, (0, ByteArray.empty)))).1) : Int) < ((l.getD (IntKind.wrap .i64 (i - 1)).toNat (0, (0, (0, ByteArray.empty)))).1))) = true, true = true] (by kernel_rfl) ⟨b541_3, b541_8, b541_11, g541_0, b541_23, rfl, trivial⟩ ?_
              have h := Option.some.inj h
              subst h
              have hk : o = f24_broughamref34_Right_out false := hk
              subst hk
              exact At.fin hm ht ⟨[], [], [], [2], []⟩ [] (by kernel_rfl) trivial
            · rcases iteS h with ⟨b541_28, h⟩ | ⟨b541_28, h⟩
              · refine At.step hm ht ⟨[(3, .b false), (8, .b false), (11, .b true), (23, .b false), (28, .b true)], [true], [], [], []⟩ 6 ⟨[], [], [], 0⟩ [(decide ((((l.getD i.toNat (0, (0, (0, ByteArray.empty)))).1) : Int) < 0)) = false, (decide ((((l.getD i.toNat (0, (0, (0, ByteArray.empty)))).1) : Int) > 2147483647)) = false, (decide ((i : Int) > 0)) = true, (0 : Int) ≤ (IntKind.wrap .i64 (i - 1)) ∧ (IntKind.wrap .i64 (i - 1)) < (((l).length : Nat) : Int), (decide ((((l.getD i.toNat (0, (0, (0, ByteArray.empty)))).1) : Int) < ((l.getD (IntKind.wrap .i64 (i - 1)).toNat (0, (0, (0, ByteArray.empty)))).1))) = false, (decide (((((l.getD i.toNat (0, (0, (0, ByteArray.empty)))).2).1) : Int) < 0)) = true, true = true] (by kernel_rfl) ⟨b541_3, b541_8, b541_11, g541_0, b541_23, b541_28, rfl, trivial⟩ ?_
                have h := Option.some.inj h
                subst h
                have hk : o = f24_broughamref34_Right_out false := hk
                subst hk
                exact At.fin hm ht ⟨[], [], [], [2], []⟩ [] (by kernel_rfl) trivial
              · rcases iteS h with ⟨b541_33, h⟩ | ⟨b541_33, h⟩
                · refine At.step hm ht ⟨[(3, .b false), (8, .b false), (11, .b true), (23, .b false), (28, .b false), (33, .b true)], [true], [], [], []⟩ 6 ⟨[], [], [], 0⟩ [(decide ((((l.getD i.toNat (0, (0, (0, ByteArray.empty)))).1) : Int) < 0)) = false, (decide ((((l.getD i.toNat (0, (0, (0, ByteArray.empty)))).1) : Int) > 2147483647)) = false, (decide ((i : Int) > 0)) = true, (0 : Int) ≤ (IntKind.wrap .i64 (i - 1)) ∧ (IntKind.wrap .i64 (i - 1)) < (((l).length : Nat) : Int), (decide ((((l.getD i.toNat (0, (0, (0, ByteArray.empty)))).1) : Int) < ((l.getD (IntKind.wrap .i64 (i - 1)).toNat (0, (0, (0, ByteArray.empty)))).1))) = false, (decide (((((l.getD i.toNat (0, (0, (0, ByteArray.empty)))).2).1) : Int) < 0)) = false, (decide (((((l.getD i.toNat (0, (0, (0, ByteArray.empty)))).2).1) : Int) > 1)) = true, true = true] (by kernel_rfl) ⟨b541_3, b541_8, b541_11, g541_0, b541_23, b541_28, b541_33, rfl, trivial⟩ ?_
                  have h := Option.some.inj h
                  subst h
                  have hk : o = f24_broughamref34_Right_out false := hk
                  subst hk
                  exact At.fin hm ht ⟨[], [], [], [2], []⟩ [] (by kernel_rfl) trivial
                · rcases iteS h with ⟨b541_38, h⟩ | ⟨b541_38, h⟩
                  · refine At.step hm ht ⟨[(3, .b false), (8, .b false), (11, .b true), (23, .b false), (28, .b false), (33, .b false), (38, .b true)], [true], [], [], []⟩ 6 ⟨[], [], [], 0⟩ [(decide ((((l.getD i.toNat (0, (0, (0, ByteArray.empty)))).1) : Int) < 0)) = false, (decide ((((l.getD i.toNat (0, (0, (0, ByteArray.empty)))).1) : Int) > 2147483647)) = false, (decide ((i : Int) > 0)) = true, (0 : Int) ≤ (IntKind.wrap .i64 (i - 1)) ∧ (IntKind.wrap .i64 (i - 1)) < (((l).length : Nat) : Int), (decide ((((l.getD i.toNat (0, (0, (0, ByteArray.empty)))).1) : Int) < ((l.getD (IntKind.wrap .i64 (i - 1)).toNat (0, (0, (0, ByteArray.empty)))).1))) = false, (decide (((((l.getD i.toNat (0, (0, (0, ByteArray.empty)))).2).1) : Int) < 0)) = false, (decide (((((l.getD i.toNat (0, (0, (0, ByteArray.empty)))).2).1) : Int) > 1)) = false, (decide ((((((l.getD i.toNat (0, (0, (0, ByteArray.empty)))).2).2).1) : Int) < 0)) = true, true = true] (by kernel_rfl) ⟨b541_3, b541_8, b541_11, g541_0, b541_23, b541_28, b541_33, b541_38, rfl, trivial⟩ ?_
                    have h := Option.some.inj h
                    subst h
                    have hk : o = f24_broughamref34_Right_out false := hk
                    subst hk
                    exact At.fin hm ht ⟨[], [], [], [2], []⟩ [] (by kernel_rfl) trivial
                  · rcases iteS h with ⟨b541_43, h⟩ | ⟨b541_43, h⟩
                    · refine At.step hm ht ⟨[(3, .b false), (8, .b false), (11, .b true), (23, .b false), (28, .b false), (33, .b false), (38, .b false), (43, .b true)], [true], [], [], []⟩ 6 ⟨[], [], [], 0⟩ [(decide ((((l.getD i.toNat (0, (0, (0, ByteArray.empty)))).1) : Int) < 0)) = false, (decide ((((l.getD i.toNat (0, (0, (0, ByteArray.empty)))).1) : Int) > 2147483647)) = false, (decide ((i : Int) > 0)) = true, (0 : Int) ≤ (IntKind.wrap .i64 (i - 1)) ∧ (IntKind.wrap .i64 (i - 1)) < (((l).length : Nat) : Int), (decide ((((l.getD i.toNat (0, (0, (0, ByteArray.empty)))).1) : Int) < ((l.getD (IntKind.wrap .i64 (i - 1)).toNat (0, (0, (0, ByteArray.empty)))).1))) = false, (decide (((((l.getD i.toNat (0, (0, (0, ByteArray.empty)))).2).1) : Int) < 0)) = false, (decide (((((l.getD i.toNat (0, (0, (0, ByteArray.empty)))).2).1) : Int) > 1)) = false, (decide ((((((l.getD i.toNat (0, (0, (0, ByteArray.empty)))).2).2).1) : Int) < 0)) = false, (decide ((((((l.getD i.toNat (0, (0, (0, ByteArray.empty)))).2).2).1) : Int) > 3)) = true, true = true] (by kernel_rfl) ⟨b541_3, b541_8, b541_11, g541_0, b541_23, b541_28, b541_33, b541_38, b541_43, rfl, trivial⟩ ?_
                      have h := Option.some.inj h
                      subst h
                      have hk : o = f24_broughamref34_Right_out false := hk
                      subst hk
                      exact At.fin hm ht ⟨[], [], [], [2], []⟩ [] (by kernel_rfl) trivial
                    · rcases iteS h with ⟨b541_e0, h⟩ | ⟨b541_e0, h⟩
                      · refine At.step hm ht ⟨[(3, .b false), (8, .b false), (11, .b true), (23, .b false), (28, .b false), (33, .b false), (38, .b false), (43, .b false)], [true], [], [], []⟩ 6 ⟨[], [], [], 0⟩ [(decide ((((l.getD i.toNat (0, (0, (0, ByteArray.empty)))).1) : Int) < 0)) = false, (decide ((((l.getD i.toNat (0, (0, (0, ByteArray.empty)))).1) : Int) > 2147483647)) = false, (decide ((i : Int) > 0)) = true, (0 : Int) ≤ (IntKind.wrap .i64 (i - 1)) ∧ (IntKind.wrap .i64 (i - 1)) < (((l).length : Nat) : Int), (decide ((((l.getD i.toNat (0, (0, (0, ByteArray.empty)))).1) : Int) < ((l.getD (IntKind.wrap .i64 (i - 1)).toNat (0, (0, (0, ByteArray.empty)))).1))) = false, (decide (((((l.getD i.toNat (0, (0, (0, ByteArray.empty)))).2).1) : Int) < 0)) = false, (decide (((((l.getD i.toNat (0, (0, (0, ByteArray.empty)))).2).1) : Int) > 1)) = false, (decide ((((((l.getD i.toNat (0, (0, (0, ByteArray.empty)))).2).2).1) : Int) < 0)) = false, (decide ((((((l.getD i.toNat (0, (0, (0, ByteArray.empty)))).2).2).1) : Int) > 3)) = false, (decide ((((((((l.getD i.toNat (0, (0, (0, ByteArray.empty)))).2).2).2).size : Nat) : Int) : Int) > 2048)) = true] (by kernel_rfl) ⟨b541_3, b541_8, b541_11, g541_0, b541_23, b541_28, b541_33, b541_38, b541_43, b541_e0, trivial⟩ ?_
                        have h := Option.some.inj h
                        subst h
                        have hk : o = f24_broughamref34_Right_out false := hk
                        subst hk
                        exact At.fin hm ht ⟨[], [], [], [2], []⟩ [] (by kernel_rfl) trivial
                      · refine At.step hm ht ⟨[(3, .b false), (8, .b false), (11, .b true), (23, .b false), (28, .b false), (33, .b false), (38, .b false), (43, .b false)], [false], [], [0, 3], []⟩ 3 ⟨[(0, .one (.c (.d (.sl (.pair (.int .i64) (.pair (.int .i64) (.pair (.int .i64) .str))) l)))), (3, .one (.c (.d (.int .i64 i))))], [], [], 0⟩ [(decide ((((l.getD i.toNat (0, (0, (0, ByteArray.empty)))).1) : Int) < 0)) = false, (decide ((((l.getD i.toNat (0, (0, (0, ByteArray.empty)))).1) : Int) > 2147483647)) = false, (decide ((i : Int) > 0)) = true, (0 : Int) ≤ (IntKind.wrap .i64 (i - 1)) ∧ (IntKind.wrap .i64 (i - 1)) < (((l).length : Nat) : Int), (decide ((((l.getD i.toNat (0, (0, (0, ByteArray.empty)))).1) : Int) < ((l.getD (IntKind.wrap .i64 (i - 1)).toNat (0, (0, (0, ByteArray.empty)))).1))) = false, (decide (((((l.getD i.toNat (0, (0, (0, ByteArray.empty)))).2).1) : Int) < 0)) = false, (decide (((((l.getD i.toNat (0, (0, (0, ByteArray.empty)))).2).1) : Int) > 1)) = false, (decide ((((((l.getD i.toNat (0, (0, (0, ByteArray.empty)))).2).2).1) : Int) < 0)) = false, (decide ((((((l.getD i.toNat (0, (0, (0, ByteArray.empty)))).2).2).1) : Int) > 3)) = false, (decide ((((((((l.getD i.toNat (0, (0, (0, ByteArray.empty)))).2).2).2).size : Nat) : Int) : Int) > 2048)) = false] (by kernel_rfl) ⟨b541_3, b541_8, b541_11, g541_0, b541_23, b541_28, b541_33, b541_38, b541_43, b541_e0, trivial⟩ ?_
                        refine At.step hm ht ⟨[], [], [], [0, 3], []⟩ 2 ⟨[(0, .one (.c (.d (.sl (.pair (.int .i64) (.pair (.int .i64) (.pair (.int .i64) .str))) l)))), (3, .one (.c (.d (.int .i64 (IntKind.wrap .i64 (i + 1))))))], [], [], 0⟩ [] (by kernel_rfl) trivial ?_
                        exact ih l (IntKind.wrap .i64 (i + 1)) w h o hk
          · rcases iteS h with ⟨b541_28, h⟩ | ⟨b541_28, h⟩
            · refine At.step hm ht ⟨[(3, .b false), (8, .b false), (11, .b false), (28, .b true)], [true], [], [], []⟩ 6 ⟨[], [], [], 0⟩ [(decide ((((l.getD i.toNat (0, (0, (0, ByteArray.empty)))).1) : Int) < 0)) = false, (decide ((((l.getD i.toNat (0, (0, (0, ByteArray.empty)))).1) : Int) > 2147483647)) = false, (decide ((i : Int) > 0)) = false, (decide (((((l.getD i.toNat (0, (0, (0, ByteArray.empty)))).2).1) : Int) < 0)) = true, true = true] (by kernel_rfl) ⟨b541_3, b541_8, b541_11, b541_28, rfl, trivial⟩ ?_
              have h := Option.some.inj h
              subst h
              have hk : o = f24_broughamref34_Right_out false := hk
              subst hk
              exact At.fin hm ht ⟨[], [], [], [2], []⟩ [] (by kernel_rfl) trivial
            · rcases iteS h with ⟨b541_33, h⟩ | ⟨b541_33, h⟩
              · refine At.step hm ht ⟨[(3, .b false), (8, .b false), (11, .b false), (28, .b false), (33, .b true)], [true], [], [], []⟩ 6 ⟨[], [], [], 0⟩ [(decide ((((l.getD i.toNat (0, (0, (0, ByteArray.empty)))).1) : Int) < 0)) = false, (decide ((((l.getD i.toNat (0, (0, (0, ByteArray.empty)))).1) : Int) > 2147483647)) = false, (decide ((i : Int) > 0)) = false, (decide (((((l.getD i.toNat (0, (0, (0, ByteArray.empty)))).2).1) : Int) < 0)) = false, (decide (((((l.getD i.toNat (0, (0, (0, ByteArray.empty)))).2).1) : Int) > 1)) = true, true = true] (by kernel_rfl) ⟨b541_3, b541_8, b541_11, b541_28, b541_33, rfl, trivial⟩ ?_
                have h := Option.some.inj h
                subst h
                have hk : o = f24_broughamref34_Right_out false := hk
                subst hk
                exact At.fin hm ht ⟨[], [], [], [2], []⟩ [] (by kernel_rfl) trivial
              · rcases iteS h with ⟨b541_38, h⟩ | ⟨b541_38, h⟩
                · refine At.step hm ht ⟨[(3, .b false), (8, .b false), (11, .b false), (28, .b false), (33, .b false), (38, .b true)], [true], [], [], []⟩ 6 ⟨[], [], [], 0⟩ [(decide ((((l.getD i.toNat (0, (0, (0, ByteArray.empty)))).1) : Int) < 0)) = false, (decide ((((l.getD i.toNat (0, (0, (0, ByteArray.empty)))).1) : Int) > 2147483647)) = false, (decide ((i : Int) > 0)) = false, (decide (((((l.getD i.toNat (0, (0, (0, ByteArray.empty)))).2).1) : Int) < 0)) = false, (decide (((((l.getD i.toNat (0, (0, (0, ByteArray.empty)))).2).1) : Int) > 1)) = false, (decide ((((((l.getD i.toNat (0, (0, (0, ByteArray.empty)))).2).2).1) : Int) < 0)) = true, true = true] (by kernel_rfl) ⟨b541_3, b541_8, b541_11, b541_28, b541_33, b541_38, rfl, trivial⟩ ?_
                  have h := Option.some.inj h
                  subst h
                  have hk : o = f24_broughamref34_Right_out false := hk
                  subst hk
                  exact At.fin hm ht ⟨[], [], [], [2], []⟩ [] (by kernel_rfl) trivial
                · rcases iteS h with ⟨b541_43, h⟩ | ⟨b541_43, h⟩
                  · refine At.step hm ht ⟨[(3, .b false), (8, .b false), (11, .b false), (28, .b false), (33, .b false), (38, .b false), (43, .b true)], [true], [], [], []⟩ 6 ⟨[], [], [], 0⟩ [(decide ((((l.getD i.toNat (0, (0, (0, ByteArray.empty)))).1) : Int) < 0)) = false, (decide ((((l.getD i.toNat (0, (0, (0, ByteArray.empty)))).1) : Int) > 2147483647)) = false, (decide ((i : Int) > 0)) = false, (decide (((((l.getD i.toNat (0, (0, (0, ByteArray.empty)))).2).1) : Int) < 0)) = false, (decide (((((l.getD i.toNat (0, (0, (0, ByteArray.empty)))).2).1) : Int) > 1)) = false, (decide ((((((l.getD i.toNat (0, (0, (0, ByteArray.empty)))).2).2).1) : Int) < 0)) = false, (decide ((((((l.getD i.toNat (0, (0, (0, ByteArray.empty)))).2).2).1) : Int) > 3)) = true, true = true] (by kernel_rfl) ⟨b541_3, b541_8, b541_11, b541_28, b541_33, b541_38, b541_43, rfl, trivial⟩ ?_
                    have h := Option.some.inj h
                    subst h
                    have hk : o = f24_broughamref34_Right_out false := hk
                    subst hk
                    exact At.fin hm ht ⟨[], [], [], [2], []⟩ [] (by kernel_rfl) trivial
                  · rcases iteS h with ⟨b541_e0, h⟩ | ⟨b541_e0, h⟩
                    · refine At.step hm ht ⟨[(3, .b false), (8, .b false), (11, .b false), (28, .b false), (33, .b false), (38, .b false), (43, .b false)], [true], [], [], []⟩ 6 ⟨[], [], [], 0⟩ [(decide ((((l.getD i.toNat (0, (0, (0, ByteArray.empty)))).1) : Int) < 0)) = false, (decide ((((l.getD i.toNat (0, (0, (0, ByteArray.empty)))).1) : Int) > 2147483647)) = false, (decide ((i : Int) > 0)) = false, (decide (((((l.getD i.toNat (0, (0, (0, ByteArray.empty)))).2).1) : Int) < 0)) = false, (decide (((((l.getD i.toNat (0, (0, (0, ByteArray.empty)))).2).1) : Int) > 1)) = false, (decide ((((((l.getD i.toNat (0, (0, (0, ByteArray.empty)))).2).2).1) : Int) < 0)) = false, (decide ((((((l.getD i.toNat (0, (0, (0, ByteArray.empty)))).2).2).1) : Int) > 3)) = false, (decide ((((((((l.getD i.toNat (0, (0, (0, ByteArray.empty)))).2).2).2).size : Nat) : Int) : Int) > 2048)) = true] (by kernel_rfl) ⟨b541_3, b541_8, b541_11, b541_28, b541_33, b541_38, b541_43, b541_e0, trivial⟩ ?_
                      have h := Option.some.inj h
                      subst h
                      have hk : o = f24_broughamref34_Right_out false := hk
                      subst hk
                      exact At.fin hm ht ⟨[], [], [], [2], []⟩ [] (by kernel_rfl) trivial
                    · refine At.step hm ht ⟨[(3, .b false), (8, .b false), (11, .b false), (28, .b false), (33, .b false), (38, .b false), (43, .b false)], [false], [], [0, 3], []⟩ 3 ⟨[(0, .one (.c (.d (.sl (.pair (.int .i64) (.pair (.int .i64) (.pair (.int .i64) .str))) l)))), (3, .one (.c (.d (.int .i64 i))))], [], [], 0⟩ [(decide ((((l.getD i.toNat (0, (0, (0, ByteArray.empty)))).1) : Int) < 0)) = false, (decide ((((l.getD i.toNat (0, (0, (0, ByteArray.empty)))).1) : Int) > 2147483647)) = false, (decide ((i : Int) > 0)) = false, (decide (((((l.getD i.toNat (0, (0, (0, ByteArray.empty)))).2).1) : Int) < 0)) = false, (decide (((((l.getD i.toNat (0, (0, (0, ByteArray.empty)))).2).1) : Int) > 1)) = false, (decide ((((((l.getD i.toNat (0, (0, (0, ByteArray.empty)))).2).2).1) : Int) < 0)) = false, (decide ((((((l.getD i.toNat (0, (0, (0, ByteArray.empty)))).2).2).1) : Int) > 3)) = false, (decide ((((((((l.getD i.toNat (0, (0, (0, ByteArray.empty)))).2).2).2).size : Nat) : Int) : Int) > 2048)) = false] (by kernel_rfl) ⟨b541_3, b541_8, b541_11, b541_28, b541_33, b541_38, b541_43, b541_e0, trivial⟩ ?_
                      refine At.step hm ht ⟨[], [], [], [0, 3], []⟩ 2 ⟨[(0, .one (.c (.d (.sl (.pair (.int .i64) (.pair (.int .i64) (.pair (.int .i64) .str))) l)))), (3, .one (.c (.d (.int .i64 (IntKind.wrap .i64 (i + 1))))))], [], [], 0⟩ [] (by kernel_rfl) trivial ?_
                      exact ih l (IntKind.wrap .i64 (i + 1)) w h o hk
    · refine At.step hm ht ⟨[], [false], [], [0], []⟩ 7 ⟨[(0, .one (.c (.d (.sl (.pair (.int .i64) (.pair (.int .i64) (.pair (.int .i64) .str))) l))))], [], [], 0⟩ [(decide ((i : Int) < ((l.length : Nat) : Int))) = false] (by kernel_rfl) ⟨b539_e0, trivial⟩ ?_
      have h := Option.some.inj h
      subst h
      exact hk
def f24_broughamref34_Right (n : Nat) (l : List (Int × Int × Int × ByteArray)) : Option (Bool) :=
  (f24_broughamref34_Right_L2 n l 0).bind fun w557 =>
  match w557 with
  | .inl e558 =>
    some e558
  | .inr e559 =>
    some (decide ((((e559.length : Nat) : Int) : Int) ≤ 1024))
theorem f24_broughamref34_Right_ok (n : Nat) (l : List (Int × Int × Int × ByteArray)) (r : Bool) (h : f24_broughamref34_Right n l = some r) : FnOK Go.Proofs.Try.prog 24 (f24_broughamref34_Right_in l) (f24_broughamref34_Right_out r) := by
  unfold f24_broughamref34_Right at h
  refine At.fn (r := 0) Go.Proofs.Try.func24 rfl (by kernel_rfl) rfl rfl (by kernel_rfl) ?_
  show At Go.Proofs.Try.prog Go.Proofs.Try.f24 0 0 ⟨[(0, .one (.c (.d (.sl (.pair (.int .i64) (.pair (.int .i64) (.pair (.int .i64) .str))) l))))], [], [], 0⟩ _
  refine At.step hm ht ⟨[], [], [], [0], []⟩ 1 ⟨[(0, .one (.c (.d (.sl (.pair (.int .i64) (.pair (.int .i64) (.pair (.int .i64) .str))) l))))], [], [], 0⟩ [] (by kernel_rfl) trivial ?_
  refine At.step hm ht ⟨[], [], [], [0, 3], []⟩ 2 ⟨[(0, .one (.c (.d (.sl (.pair (.int .i64) (.pair (.int .i64) (.pair (.int .i64) .str))) l)))), (3, .one (.c (.d (.int .i64 0))))], [], [], 0⟩ [] (by kernel_rfl) trivial ?_
  obtain ⟨w557, cw557, h⟩ := bindS h
  refine f24_broughamref34_Right_L2_ok n l 0 w557 cw557 _ ?_
  rcases w557 with e558 | e559
  · have h := Option.some.inj h
    subst h
    rfl
  · show At Go.Proofs.Try.prog Go.Proofs.Try.f24 0 7 ⟨[(0, .one (.c (.d (.sl (.pair (.int .i64) (.pair (.int .i64) (.pair (.int .i64) .str))) e559))))], [], [], 0⟩ _
    have h := Option.some.inj h
    subst h
    exact At.fin hm ht ⟨[], [], [], [2], []⟩ [] (by kernel_rfl) trivial
/-! brougham/broughamref02.Put -/
def f82_broughamref02_Put_in (n_ : Int) (bytes : Int) : Inn := ⟨[.c (.d (.sl .unit [])), .c (.d (.int .u64 n_)), .c (.d (.int .i64 bytes))], [], [], 0⟩
def f82_broughamref02_Put_out (r : List Int) : Out := ⟨.one (.c (.own 0 (.int .u8) r)), [(0, ⟨5, 0⟩)], [], 1⟩
def f82_broughamref02_Put : Nat → Int → Int → Option (List Int)
  | 0, _, _ => none
  | n + 1, n_, bytes =>
    if (decide ((bytes : Int) < 1)) = true then
      some []
    else
      if (decide ((bytes : Int) > 8)) = true then
        some []
      else
        (f82_broughamref02_Put n (IntKind.wrap .u64 (Int.tdiv n_ 256)) (IntKind.wrap .i64 (bytes - 1))).bind fun r579_0 =>
        if r579_0.length + [(IntKind.wrap .u8 (Int.tmod n_ 256))].length ≤ maxLen ∧ (r579_0.length + [(IntKind.wrap .u8 (Int.tmod n_ 256))].length) * 1 ≤ 140737488355328 then
        some (r579_0 ++ [(IntKind.wrap .u8 (Int.tmod n_ 256))])
        else none
theorem f82_broughamref02_Put_ok (n : Nat) : ∀ (n_ : Int) (bytes : Int) (r : List Int) (h : f82_broughamref02_Put n n_ bytes = some r), FnOK Go.Proofs.Try.prog 82 (f82_broughamref02_Put_in n_ bytes) (f82_broughamref02_Put_out r) := by
  induction n with
  | zero => intro n_ bytes r h; rw [f82_broughamref02_Put] at h; cases h
  | succ n ih =>
    intro n_ bytes r h
    rw [f82_broughamref02_Put] at h
    refine At.fn (r := 0) Go.Proofs.Try.func82 rfl (by kernel_rfl) rfl rfl (by kernel_rfl) ?_
    show At Go.Proofs.Try.prog Go.Proofs.Try.f82 0 0 ⟨[(0, .one (.c (.d (.sl .unit [])))), (1, .one (.c (.d (.int .u64 n_)))), (2, .one (.c (.d (.int .i64 bytes))))], [], [], 0⟩ _
    refine At.step hm ht ⟨[], [], [], [0, 1, 2], []⟩ 1 ⟨[(0, .one (.c (.d (.sl .unit [])))), (1, .one (.c (.d (.int .u64 n_)))), (2, .one (.c (.d (.int .i64 bytes))))], [], [], 0⟩ [] (by kernel_rfl) trivial ?_
    rcases iteS h with ⟨b576_2, h⟩ | ⟨b576_2, h⟩
    · refine At.step hm ht ⟨[(2, .b true)], [true], [], [0], []⟩ 2 ⟨[(0, .one (.c (.d (.sl .unit []))))], [], [], 0⟩ [(decide ((bytes : Int) < 1)) = true, true = true] (by kernel_rfl) ⟨b576_2, rfl, trivial⟩ ?_
      have h := Option.some.inj h
      subst h
      exact At.fin hm ht ⟨[], [], [.nil false 6 0 (.int .u8) (some 5)], [6], [2]⟩ [] (by kernel_rfl) trivial
    · rcases iteS h with ⟨b576_e0, h⟩ | ⟨b576_e0, h⟩
      · refine At.step hm ht ⟨[(2, .b false)], [true], [], [0], []⟩ 2 ⟨[(0, .one (.c (.d (.sl .unit []))))], [], [], 0⟩ [(decide ((bytes : Int) < 1)) = false, (decide ((bytes : Int) > 8)) = true] (by kernel_rfl) ⟨b576_2, b576_e0, trivial⟩ ?_
        have h := Option.some.inj h
        subst h
        exact At.fin hm ht ⟨[], [], [.nil false 6 0 (.int .u8) (some 5)], [6], [2]⟩ [] (by kernel_rfl) trivial
      · refine At.step hm ht ⟨[(2, .b false)], [false], [], [0, 1, 2], []⟩ 3 ⟨[(0, .one (.c (.d (.sl .unit [])))), (1, .one (.c (.d (.int .u64 n_)))), (2, .one (.c (.d (.int .i64 bytes))))], [], [], 0⟩ [(decide ((bytes : Int) < 1)) = false, (decide ((bytes : Int) > 8)) = false] (by kernel_rfl) ⟨b576_2, b576_e0, trivial⟩ ?_
        obtain ⟨r579_0, cr579_0, h⟩ := bindS h
        refine At.step hm ht ⟨[(5, .call [] [] (f82_broughamref02_Put_out r579_0))], [], [], [0, 1], [5]⟩ 4 ⟨[(0, .one (.c (.own 0 (.int .u8) r579_0))), (1, .one (.c (.d (.int .u64 n_))))], [(0, some ⟨5, 0⟩)], [], 1⟩ [(256 : Int) ≠ 0, FnOK Go.Proofs.Try.prog 82 (f82_broughamref02_Put_in (IntKind.wrap .u64 (Int.tdiv n_ 256)) (IntKind.wrap .i64 (bytes - 1))) (f82_broughamref02_Put_out r579_0)] (by kernel_rfl) ⟨(by decide), (ih (IntKind.wrap .u64 (Int.tdiv n_ 256)) (IntKind.wrap .i64 (bytes - 1)) r579_0 cr579_0), trivial⟩ ?_
        obtain ⟨g580_0, h⟩ := ifS h
        have h := Option.some.inj h
        subst h
        exact At.fin hm ht ⟨[], [], [], [6], [6]⟩ [(256 : Int) ≠ 0, r579_0.length + [(IntKind.wrap .u8 (Int.tmod n_ 256))].length ≤ maxLen ∧ (r579_0.length + [(IntKind.wrap .u8 (Int.tmod n_ 256))].length) * 1 ≤ 140737488355328] (by kernel_rfl) ⟨(by decide), g580_0, trivial⟩
/-! brougham/broughamref02.Put -/
def f82_broughamref02_Put_v2_in (b : List Int) (n_ : Int) (bytes : Int) : Inn := ⟨[.c (.own 0 (.int .u8) b), .c (.d (.int .u64 n_)), .c (.d (.int .i64 bytes))], [(0, ⟨5, 0⟩)], [], 1⟩
def f82_broughamref02_Put_v2_out (r : List Int) : Out := ⟨.one (.c (.own 1 (.int .u8) r)), [(1, ⟨5, 0⟩)], [], 2⟩
def f82_broughamref02_Put_v2 : Nat → (List Int) → Int → Int → Option (List Int)
  | 0, _, _, _ => none
  | n + 1, b, n_, bytes =>
    if (decide ((bytes : Int) < 1)) = true then
      some b
    else
      if (decide ((bytes : Int) > 8)) = true then
        some b
      else
        (f82_broughamref02_Put_v2 n b (IntKind.wrap .u64 (Int.tdiv n_ 256)) (IntKind.wrap .i64 (bytes - 1))).bind fun r591_0 =>
        if r591_0.length + [(IntKind.wrap .u8 (Int.tmod n_ 256))].length ≤ maxLen ∧ (r591_0.length + [(IntKind.wrap .u8 (Int.tmod n_ 256))].length) * 1 ≤ 140737488355328 then
        some (r591_0 ++ [(IntKind.wrap .u8 (Int.tmod n_ 256))])
        else none
theorem f82_broughamref02_Put_v2_ok (n : Nat) : ∀ (b : List Int) (n_ : Int) (bytes : Int) (r : List Int) (h : f82_broughamref02_Put_v2 n b n_ bytes = some r), FnOK Go.Proofs.Try.prog 82 (f82_broughamref02_Put_v2_in b n_ bytes) (f82_broughamref02_Put_v2_out r) := by
  induction n with
  | zero => intro b n_ bytes r h; rw [f82_broughamref02_Put_v2] at h; cases h
  | succ n ih =>
    intro b n_ bytes r h
    rw [f82_broughamref02_Put_v2] at h
    refine At.fn (r := 0) Go.Proofs.Try.func82 rfl (by kernel_rfl) rfl rfl (by kernel_rfl) ?_
    show At Go.Proofs.Try.prog Go.Proofs.Try.f82 1 0 ⟨[(0, .one (.c (.own 0 (.int .u8) b))), (1, .one (.c (.d (.int .u64 n_)))), (2, .one (.c (.d (.int .i64 bytes))))], [(0, some ⟨5, 0⟩)], [], 1⟩ _
    refine At.step hm ht ⟨[], [], [], [0, 1, 2], [0]⟩ 1 ⟨[(0, .one (.c (.own 0 (.int .u8) b))), (1, .one (.c (.d (.int .u64 n_)))), (2, .one (.c (.d (.int .i64 bytes))))], [(0, some ⟨5, 0⟩)], [], 1⟩ [] (by kernel_rfl) trivial ?_
    rcases iteS h with ⟨b588_2, h⟩ | ⟨b588_2, h⟩
    · refine At.step hm ht ⟨[(2, .b true)], [true], [], [0], [0]⟩ 2 ⟨[(0, .one (.c (.own 0 (.int .u8) b)))], [(0, some ⟨5, 0⟩)], [], 1⟩ [(decide ((bytes : Int) < 1)) = true, true = true] (by kernel_rfl) ⟨b588_2, rfl, trivial⟩ ?_
      have h := Option.some.inj h
      subst h
      exact At.fin hm ht ⟨[], [], [.mv 0 6 0], [6], [0, 3]⟩ [] (by kernel_rfl) trivial
    · rcases iteS h with ⟨b588_e0, h⟩ | ⟨b588_e0, h⟩
      · refine At.step hm ht ⟨[(2, .b false)], [true], [], [0], [0]⟩ 2 ⟨[(0, .one (.c (.own 0 (.int .u8) b)))], [(0, some ⟨5, 0⟩)], [], 1⟩ [(decide ((bytes : Int) < 1)) = false, (decide ((bytes : Int) > 8)) = true] (by kernel_rfl) ⟨b588_2, b588_e0, trivial⟩ ?_
        have h := Option.some.inj h
        subst h
        exact At.fin hm ht ⟨[], [], [.mv 0 6 0], [6], [0, 3]⟩ [] (by kernel_rfl) trivial
      · refine At.step hm ht ⟨[(2, .b false)], [false], [], [0, 1, 2], [0]⟩ 3 ⟨[(0, .one (.c (.own 0 (.int .u8) b))), (1, .one (.c (.d (.int .u64 n_)))), (2, .one (.c (.d (.int .i64 bytes))))], [(0, some ⟨5, 0⟩)], [], 1⟩ [(decide ((bytes : Int) < 1)) = false, (decide ((bytes : Int) > 8)) = false] (by kernel_rfl) ⟨b588_2, b588_e0, trivial⟩ ?_
        obtain ⟨r591_0, cr591_0, h⟩ := bindS h
        refine At.step hm ht ⟨[(5, .call [0] [] (f82_broughamref02_Put_v2_out r591_0))], [], [], [0, 1], [0, 7]⟩ 4 ⟨[(0, .one (.c (.own 1 (.int .u8) r591_0))), (1, .one (.c (.d (.int .u64 n_))))], [(1, some ⟨5, 0⟩)], [], 2⟩ [(256 : Int) ≠ 0, FnOK Go.Proofs.Try.prog 82 (f82_broughamref02_Put_v2_in b (IntKind.wrap .u64 (Int.tdiv n_ 256)) (IntKind.wrap .i64 (bytes - 1))) (f82_broughamref02_Put_v2_out r591_0)] (by kernel_rfl) ⟨(by decide), (ih b (IntKind.wrap .u64 (Int.tdiv n_ 256)) (IntKind.wrap .i64 (bytes - 1)) r591_0 cr591_0), trivial⟩ ?_
        obtain ⟨g592_0, h⟩ := ifS h
        have h := Option.some.inj h
        subst h
        exact At.fin hm ht ⟨[], [], [], [6], [0, 7]⟩ [(256 : Int) ≠ 0, r591_0.length + [(IntKind.wrap .u8 (Int.tmod n_ 256))].length ≤ maxLen ∧ (r591_0.length + [(IntKind.wrap .u8 (Int.tmod n_ 256))].length) * 1 ≤ 140737488355328] (by kernel_rfl) ⟨(by decide), g592_0, trivial⟩
/-! brougham/broughamref34.Sum -/
def f26_broughamref34_Sum_in (b : List Int) : Inn := ⟨[.c (.d (.sl (.int .u8) b))], [], [], 0⟩
def f26_broughamref34_Sum_out (r : Int) : Out := ⟨.one (.c (.d (.int .u32 r))), [], [], 0⟩
def f26_broughamref34_Sum_L3 : Nat → (List Int) → Int → Int → Int → Option (Int × Int)
  | 0, _, _, _, _ => none
  | n + 1, b, x, y, i =>
    if (decide ((i : Int) < ((b.length : Nat) : Int))) = true then
      if (0 : Int) ≤ i ∧ i < (((b).length : Nat) : Int) then
      if (((Int.tmod i 2) : Int) == 0) = true then
        if (((Int.tmod i 2) : Int) == 1) = true then
          f26_broughamref34_Sum_L3 n b (Int.tmod (IntKind.wrap .u64 (x + (IntKind.wrap .u64 ((IntKind.wrap .u64 (b.getD i.toNat 0)) * 256)))) 65535) (Int.tmod (IntKind.wrap .u64 (y + (Int.tmod (IntKind.wrap .u64 (x + (IntKind.wrap .u64 ((IntKind.wrap .u64 (b.getD i.toNat 0)) * 256)))) 65535))) 65535) (IntKind.wrap .i64 (i + 1))
        else
          if ((i : Int) == (IntKind.wrap .i64 (((b.length : Nat) : Int) - 1))) = true then
            f26_broughamref34_Sum_L3 n b (Int.tmod (IntKind.wrap .u64 (x + (IntKind.wrap .u64 ((IntKind.wrap .u64 (b.getD i.toNat 0)) * 256)))) 65535) (Int.tmod (IntKind.wrap .u64 (y + (Int.tmod (IntKind.wrap .u64 (x + (IntKind.wrap .u64 ((IntKind.wrap .u64 (b.getD i.toNat 0)) * 256)))) 65535))) 65535) (IntKind.wrap .i64 (i + 1))
          else
            f26_broughamref34_Sum_L3 n b (IntKind.wrap .u64 (x + (IntKind.wrap .u64 ((IntKind.wrap .u64 (b.getD i.toNat 0)) * 256)))) y (IntKind.wrap .i64 (i + 1))
      else
        if (((Int.tmod i 2) : Int) == 1) = true then
          f26_broughamref34_Sum_L3 n b (Int.tmod (IntKind.wrap .u64 (x + (IntKind.wrap .u64 (b.getD i.toNat 0)))) 65535) (Int.tmod (IntKind.wrap .u64 (y + (Int.tmod (IntKind.wrap .u64 (x + (IntKind.wrap .u64 (b.getD i.toNat 0)))) 65535))) 65535) (IntKind.wrap .i64 (i + 1))
        else
          if ((i : Int) == (IntKind.wrap .i64 (((b.length : Nat) : Int) - 1))) = true then
            f26_broughamref34_Sum_L3 n b (Int.tmod (IntKind.wrap .u64 (x + (IntKind.wrap .u64 (b.getD i.toNat 0)))) 65535) (Int.tmod (IntKind.wrap .u64 (y + (Int.tmod (IntKind.wrap .u64 (x + (IntKind.wrap .u64 (b.getD i.toNat 0)))) 65535))) 65535) (IntKind.wrap .i64 (i + 1))
          else
            f26_broughamref34_Sum_L3 n b (IntKind.wrap .u64 (x + (IntKind.wrap .u64 (b.getD i.toNat 0)))) y (IntKind.wrap .i64 (i + 1))
      else none
    else
      some ((x, y))
def f26_broughamref34_Sum_L3_k (e : Int × Int) (o : Out) : Prop := At Go.Proofs.Try.prog Go.Proofs.Try.f26 0 12 ⟨[(3, .one (.c (.d (.int .u64 e.1)))), (4, .one (.c (.d (.int .u64 e.2))))], [], [], 0⟩ o
theorem f26_broughamref34_Sum_L3_ok (n : Nat) : ∀ (b : List Int) (x : Int) (y : Int) (i : Int) (w : Int × Int) (h : f26_broughamref34_Sum_L3 n b x y i = some w) (o : Out) (hk : f26_broughamref34_Sum_L3_k w o), At Go.Proofs.Try.prog Go.Proofs.Try.f26 0 3 ⟨[(0, .one (.c (.d (.sl (.int .u8) b)))), (3, .one (.c (.d (.int .u64 x)))), (4, .one (.c (.d (.int .u64 y)))), (5, .one (.c (.d (.int .i64 i))))], [], [], 0⟩ o := by
  induction n with
  | zero => intro b x y i w h; rw [f26_broughamref34_Sum_L3] at h; cases h
  | succ n ih =>
    intro b x y i w h o hk
    rw [f26_broughamref34_Sum_L3] at h
    rcases iteS h with ⟨b608_e0, h⟩ | ⟨b608_e0, h⟩
    · refine At.step hm ht ⟨[], [true], [], [0, 3, 4, 5], []⟩ 5 ⟨[(0, .one (.c (.d (.sl (.int .u8) b)))), (3, .one (.c (.d (.int .u64 x)))), (4, .one (.c (.d (.int .u64 y)))), (5, .one (.c (.d (.int .i64 i))))], [], [], 0⟩ [(decide ((i : Int) < ((b.length : Nat) : Int))) = true] (by kernel_rfl) ⟨b608_e0, trivial⟩ ?_
      obtain ⟨g609_0, h⟩ := ifS h
      refine At.step hm ht ⟨[], [], [], [0, 3, 4, 5, 6], []⟩ 6 ⟨[(0, .one (.c (.d (.sl (.int .u8) b)))), (3, .one (.c (.d (.int .u64 x)))), (4, .one (.c (.d (.int .u64 y)))), (5, .one (.c (.d (.int .i64 i)))), (6, .one (.c (.d (.int .u64 (IntKind.wrap .u64 (b.getD i.toNat 0))))))], [], [], 0⟩ [(0 : Int) ≤ i ∧ i < (((b).length : Nat) : Int)] (by kernel_rfl) ⟨g609_0, trivial⟩ ?_
      rcases iteS h with ⟨b610_e0, h⟩ | ⟨b610_e0, h⟩
      · refine At.step hm ht ⟨[], [true], [], [0, 3, 4, 5, 6], []⟩ 7 ⟨[(0, .one (.c (.d (.sl (.int .u8) b)))), (3, .one (.c (.d (.int .u64 x)))), (4, .one (.c (.d (.int .u64 y)))), (5, .one (.c (.d (.int .i64 i)))), (6, .one (.c (.d (.int .u64 (IntKind.wrap .u64 (b.getD i.toNat 0))))))], [], [], 0⟩ [(2 : Int) ≠ 0, (((Int.tmod i 2) : Int) == 0) = true] (by kernel_rfl) ⟨(by decide), b610_e0, trivial⟩ ?_
        refine At.step hm ht ⟨[], [], [], [0, 3, 4, 5, 6], []⟩ 8 ⟨[(0, .one (.c (.d (.sl (.int .u8) b)))), (3, .one (.c (.d (.int .u64 x)))), (4, .one (.c (.d (.int .u64 y)))), (5, .one (.c (.d (.int .i64 i)))), (6, .one (.c (.d (.int .u64 (IntKind.wrap .u64 ((IntKind.wrap .u64 (b.getD i.toNat 0)) * 256))))))], [], [], 0⟩ [] (by kernel_rfl) trivial ?_
        refine At.step hm ht ⟨[], [], [], [0, 3, 4, 5], []⟩ 9 ⟨[(0, .one (.c (.d (.sl (.int .u8) b)))), (3, .one (.c (.d (.int .u64 (IntKind.wrap .u64 (x + (IntKind.wrap .u64 ((IntKind.wrap .u64 (b.getD i.toNat 0)) * 256)))))))), (4, .one (.c (.d (.int .u64 y)))), (5, .one (.c (.d (.int .i64 i))))], [], [], 0⟩ [] (by kernel_rfl) trivial ?_
        rcases iteS h with ⟨b613_3, h⟩ | ⟨b613_3, h⟩
        · refine At.step hm ht ⟨[(3, .b true)], [true], [], [0, 3, 4, 5], []⟩ 10 ⟨[(0, .one (.c (.d (.sl (.int .u8) b)))), (3, .one (.c (.d (.int .u64 (IntKind.wrap .u64 (x + (IntKind.wrap .u64 ((IntKind.wrap .u64 (b.getD i.toNat 0)) * 256)))))))), (4, .one (.c (.d (.int .u64 y)))), (5, .one (.c (.d (.int .i64 i))))], [], [], 0⟩ [(2 : Int) ≠ 0, (((Int.tmod i 2) : Int) == 1) = true, true = true] (by kernel_rfl) ⟨(by decide), b613_3, rfl, trivial⟩ ?_
          refine At.step hm ht ⟨[], [], [], [0, 3, 4, 5], []⟩ 11 ⟨[(0, .one (.c (.d (.sl (.int .u8) b)))), (3, .one (.c (.d (.int .u64 (Int.tmod (IntKind.wrap .u64 (x + (IntKind.wrap .u64 ((IntKind.wrap .u64 (b.getD i.toNat 0)) * 256)))) 65535))))), (4, .one (.c (.d (.int .u64 y)))), (5, .one (.c (.d (.int .i64 i))))], [], [], 0⟩ [(65535 : Int) ≠ 0] (by kernel_rfl) ⟨(by decide), trivial⟩ ?_
          refine At.step hm ht ⟨[], [], [], [0, 3, 4, 5], []⟩ 4 ⟨[(0, .one (.c (.d (.sl (.int .u8) b)))), (3, .one (.c (.d (.int .u64 (Int.tmod (IntKind.wrap .u64 (x + (IntKind.wrap .u64 ((IntKind.wrap .u64 (b.getD i.toNat 0)) * 256)))) 65535))))), (4, .one (.c (.d (.int .u64 (Int.tmod (IntKind.wrap .u64 (y + (Int.tmod (IntKind.wrap .u64 (x + (IntKind.wrap .u64 ((IntKind.wrap .u64 (b.getD i.toNat 0)) * 256)))) 65535))) 65535))))), (5, .one (.c (.d (.int .i64 i))))], [], [], 0⟩ [(65535 : Int) ≠ 0] (by kernel_rfl) ⟨(by decide), trivial⟩ ?_
          refine At.step hm ht ⟨[], [], [], [0, 3, 4, 5], []⟩ 3 ⟨[(0, .one (.c (.d (.sl (.int .u8) b)))), (3, .one (.c (.d (.int .u64 (Int.tmod (IntKind.wrap .u64 (x + (IntKind.wrap .u64 ((IntKind.wrap .u64 (b.getD i.toNat 0)) * 256)))) 65535))))), (4, .one (.c (.d (.int .u64 (Int.tmod (IntKind.wrap .u64 (y + (Int.tmod (IntKind.wrap .u64 (x + (IntKind.wrap .u64 ((IntKind.wrap .u64 (b.getD i.toNat 0)) * 256)))) 65535))) 65535))))), (5, .one (.c (.d (.int .i64 (IntKind.wrap .i64 (i + 1))))))], [], [], 0⟩ [] (by kernel_rfl) trivial ?_
          exact ih b (Int.tmod (IntKind.wrap .u64 (x + (IntKind.wrap .u64 ((IntKind.wrap .u64 (b.getD i.toNat 0)) * 256)))) 65535) (Int.tmod (IntKind.wrap .u64 (y + (Int.tmod (IntKind.wrap .u64 (x + (IntKind.wrap .u64 ((IntKind.wrap .u64 (b.getD i.toNat 0)) * 256)))) 65535))) 65535) (IntKind.wrap .i64 (i + 1)) w h o hk
        · rcases iteS h with ⟨b613_e0, h⟩ | ⟨b613_e0, h⟩
          · refine At.step hm ht ⟨[(3, .b false)], [true], [], [0, 3, 4, 5], []⟩ 10 ⟨[(0, .one (.c (.d (.sl (.int .u8) b)))), (3, .one (.c (.d (.int .u64 (IntKind.wrap .u64 (x + (IntKind.wrap .u64 ((IntKind.wrap .u64 (b.getD i.toNat 0)) * 256)))))))), (4, .one (.c (.d (.int .u64 y)))), (5, .one (.c (.d (.int .i64 i))))], [], [], 0⟩ [(2 : Int) ≠ 0, (((Int.tmod i 2) : Int) == 1) = false, ((i : Int) == (IntKind.wrap .i64 (((b.length : Nat) : Int) - 1))) = true] (by kernel_rfl) ⟨(by decide), b613_3, b613_e0, trivial⟩ ?_
            refine At.step hm ht ⟨[], [], [], [0, 3, 4, 5], []⟩ 11 ⟨[(0, .one (.c (.d (.sl (.int .u8) b)))), (3, .one (.c (.d (.int .u64 (Int.tmod (IntKind.wrap .u64 (x + (IntKind.wrap .u64 ((IntKind.wrap .u64 (b.getD i.toNat 0)) * 256)))) 65535))))), (4, .one (.c (.d (.int .u64 y)))), (5, .one (.c (.d (.int .i64 i))))], [], [], 0⟩ [(65535 : Int) ≠ 0] (by kernel_rfl) ⟨(by decide), trivial⟩ ?_
            refine At.step hm ht ⟨[], [], [], [0, 3, 4, 5], []⟩ 4 ⟨[(0, .one (.c (.d (.sl (.int .u8) b)))), (3, .one (.c (.d (.int .u64 (Int.tmod (IntKind.wrap .u64 (x + (IntKind.wrap .u64 ((IntKind.wrap .u64 (b.getD i.toNat 0)) * 256)))) 65535))))), (4, .one (.c (.d (.int .u64 (Int.tmod (IntKind.wrap .u64 (y + (Int.tmod (IntKind.wrap .u64 (x + (IntKind.wrap .u64 ((IntKind.wrap .u64 (b.getD i.toNat 0)) * 256)))) 65535))) 65535))))), (5, .one (.c (.d (.int .i64 i))))], [], [], 0⟩ [(65535 : Int) ≠ 0] (by kernel_rfl) ⟨(by decide), trivial⟩ ?_
            refine At.step hm ht ⟨[], [], [], [0, 3, 4, 5], []⟩ 3 ⟨[(0, .one (.c (.d (.sl (.int .u8) b)))), (3, .one (.c (.d (.int .u64 (Int.tmod (IntKind.wrap .u64 (x + (IntKind.wrap .u64 ((IntKind.wrap .u64 (b.getD i.toNat 0)) * 256)))) 65535))))), (4, .one (.c (.d (.int .u64 (Int.tmod (IntKind.wrap .u64 (y + (Int.tmod (IntKind.wrap .u64 (x + (IntKind.wrap .u64 ((IntKind.wrap .u64 (b.getD i.toNat 0)) * 256)))) 65535))) 65535))))), (5, .one (.c (.d (.int .i64 (IntKind.wrap .i64 (i + 1))))))], [], [], 0⟩ [] (by kernel_rfl) trivial ?_
            exact ih b (Int.tmod (IntKind.wrap .u64 (x + (IntKind.wrap .u64 ((IntKind.wrap .u64 (b.getD i.toNat 0)) * 256)))) 65535) (Int.tmod (IntKind.wrap .u64 (y + (Int.tmod (IntKind.wrap .u64 (x + (IntKind.wrap .u64 ((IntKind.wrap .u64 (b.getD i.toNat 0)) * 256)))) 65535))) 65535) (IntKind.wrap .i64 (i + 1)) w h o hk
          · refine At.step hm ht ⟨[(3, .b false)], [false], [], [0, 3, 4, 5], []⟩ 4 ⟨[(0, .one (.c (.d (.sl (.int .u8) b)))), (3, .one (.c (.d (.int .u64 (IntKind.wrap .u64 (x + (IntKind.wrap .u64 ((IntKind.wrap .u64 (b.getD i.toNat 0)) * 256)))))))), (4, .one (.c (.d (.int .u64 y)))), (5, .one (.c (.d (.int .i64 i))))], [], [], 0⟩ [(2 : Int) ≠ 0, (((Int.tmod i 2) : Int) == 1) = false, ((i : Int) == (IntKind.wrap .i64 (((b.length : Nat) : Int) - 1))) = false] (by kernel_rfl) ⟨(by decide), b613_3, b613_e0, trivial⟩ ?_
            refine At.step hm ht ⟨[], [], [], [0, 3, 4, 5], []⟩ 3 ⟨[(0, .one (.c (.d (.sl (.int .u8) b)))), (3, .one (.c (.d (.int .u64 (IntKind.wrap .u64 (x + (IntKind.wrap .u64 ((IntKind.wrap .u64 (b.getD i.toNat 0)) * 256)))))))), (4, .one (.c (.d (.int .u64 y)))), (5, .one (.c (.d (.int .i64 (IntKind.wrap .i64 (i + 1))))))], [], [], 0⟩ [] (by kernel_rfl) trivial ?_
            exact ih b (IntKind.wrap .u64 (x + (IntKind.wrap .u64 ((IntKind.wrap .u64 (b.getD i.toNat 0)) * 256)))) y (IntKind.wrap .i64 (i + 1)) w h o hk
      · refine At.step hm ht ⟨[], [false], [], [0, 3, 4, 5, 6], []⟩ 8 ⟨[(0, .one (.c (.d (.sl (.int .u8) b)))), (3, .one (.c (.d (.int .u64 x)))), (4, .one (.c (.d (.int .u64 y)))), (5, .one (.c (.d (.int .i64 i)))), (6, .one (.c (.d (.int .u64 (IntKind.wrap .u64 (b.getD i.toNat 0))))))], [], [], 0⟩ [(2 : Int) ≠ 0, (((Int.tmod i 2) : Int) == 0) = false] (by kernel_rfl) ⟨(by decide), b610_e0, trivial⟩ ?_
        refine At.step hm ht ⟨[], [], [], [0, 3, 4, 5], []⟩ 9 ⟨[(0, .one (.c (.d (.sl (.int .u8) b)))), (3, .one (.c (.d (.int .u64 (IntKind.wrap .u64 (x + (IntKind.wrap .u64 (b.getD i.toNat 0)))))))), (4, .one (.c (.d (.int .u64 y)))), (5, .one (.c (.d (.int .i64 i))))], [], [], 0⟩ [] (by kernel_rfl) trivial ?_
        rcases iteS h with ⟨b622_3, h⟩ | ⟨b622_3, h⟩
        · refine At.step hm ht ⟨[(3, .b true)], [true], [], [0, 3, 4, 5], []⟩ 10 ⟨[(0, .one (.c (.d (.sl (.int .u8) b)))), (3, .one (.c (.d (.int .u64 (IntKind.wrap .u64 (x + (IntKind.wrap .u64 (b.getD i.toNat 0)))))))), (4, .one (.c (.d (.int .u64 y)))), (5, .one (.c (.d (.int .i64 i))))], [], [], 0⟩ [(2 : Int) ≠ 0, (((Int.tmod i 2) : Int) == 1) = true, true = true] (by kernel_rfl) ⟨(by decide), b622_3, rfl, trivial⟩ ?_
          refine At.step hm ht ⟨[], [], [], [0, 3, 4, 5], []⟩ 11 ⟨[(0, .one (.c (.d (.sl (.int .u8) b)))), (3, .one (.c (.d (.int .u64 (Int.tmod (IntKind.wrap .u64 (x + (IntKind.wrap .u64 (b.getD i.toNat 0)))) 65535))))), (4, .one (.c (.d (.int .u64 y)))), (5, .one (.c (.d (.int .i64 i))))], [], [], 0⟩ [(65535 : Int) ≠ 0] (by kernel_rfl) ⟨(by decide), trivial⟩ ?_
          refine At.step hm ht ⟨[], [], [], [0, 3, 4, 5], []⟩ 4 ⟨[(0, .one (.c (.d (.sl (.int .u8) b)))), (3, .one (.c (.d (.int .u64 (Int.tmod (IntKind.wrap .u64 (x + (IntKind.wrap .u64 (b.getD i.toNat 0)))) 65535))))), (4, .one (.c (.d (.int .u64 (Int.tmod (IntKind.wrap .u64 (y + (Int.tmod (IntKind.wrap .u64 (x + (IntKind.wrap .u64 (b.getD i.toNat 0)))) 65535))) 65535))))), (5, .one (.c (.d (.int .i64 i))))], [], [], 0⟩ [(65535 : Int) ≠ 0] (by kernel_rfl) ⟨(by decide), trivial⟩ ?_
          refine At.step hm ht ⟨[], [], [], [0, 3, 4, 5], []⟩ 3 ⟨[(0, .one (.c (.d (.sl (.int .u8) b)))), (3, .one (.c (.d (.int .u64 (Int.tmod (IntKind.wrap .u64 (x + (IntKind.wrap .u64 (b.getD i.toNat 0)))) 65535))))), (4, .one (.c (.d (.int .u64 (Int.tmod (IntKind.wrap .u64 (y + (Int.tmod (IntKind.wrap .u64 (x + (IntKind.wrap .u64 (b.getD i.toNat 0)))) 65535))) 65535))))), (5, .one (.c (.d (.int .i64 (IntKind.wrap .i64 (i + 1))))))], [], [], 0⟩ [] (by kernel_rfl) trivial ?_
          exact ih b (Int.tmod (IntKind.wrap .u64 (x + (IntKind.wrap .u64 (b.getD i.toNat 0)))) 65535) (Int.tmod (IntKind.wrap .u64 (y + (Int.tmod (IntKind.wrap .u64 (x + (IntKind.wrap .u64 (b.getD i.toNat 0)))) 65535))) 65535) (IntKind.wrap .i64 (i + 1)) w h o hk
        · rcases iteS h with ⟨b622_e0, h⟩ | ⟨b622_e0, h⟩
          · refine At.step hm ht ⟨[(3, .b false)], [true], [], [0, 3, 4, 5], []⟩ 10 ⟨[(0, .one (.c (.d (.sl (.int .u8) b)))), (3, .one (.c (.d (.int .u64 (IntKind.wrap .u64 (x + (IntKind.wrap .u64 (b.getD i.toNat 0)))))))), (4, .one (.c (.d (.int .u64 y)))), (5, .one (.c (.d (.int .i64 i))))], [], [], 0⟩ [(2 : Int) ≠ 0, (((Int.tmod i 2) : Int) == 1) = false, ((i : Int) == (IntKind.wrap .i64 (((b.length : Nat) : Int) - 1))) = true] (by kernel_rfl) ⟨(by decide), b622_3, b622_e0, trivial⟩ ?_
            refine At.step hm ht ⟨[], [], [], [0, 3, 4, 5], []⟩ 11 ⟨[(0, .one (.c (.d (.sl (.int .u8) b)))), (3, .one (.c (.d (.int .u64 (Int.tmod (IntKind.wrap .u64 (x + (IntKind.wrap .u64 (b.getD i.toNat 0)))) 65535))))), (4, .one (.c (.d (.int .u64 y)))), (5, .one (.c (.d (.int .i64 i))))], [], [], 0⟩ [(65535 : Int) ≠ 0] (by kernel_rfl) ⟨(by decide), trivial⟩ ?_
            refine At.step hm ht ⟨[], [], [], [0, 3, 4, 5], []⟩ 4 ⟨[(0, .one (.c (.d (.sl (.int .u8) b)))), (3, .one (.c (.d (.int .u64 (Int.tmod (IntKind.wrap .u64 (x + (IntKind.wrap .u64 (b.getD i.toNat 0)))) 65535))))), (4, .one (.c (.d (.int .u64 (Int.tmod (IntKind.wrap .u64 (y + (Int.tmod (IntKind.wrap .u64 (x + (IntKind.wrap .u64 (b.getD i.toNat 0)))) 65535))) 65535))))), (5, .one (.c (.d (.int .i64 i))))], [], [], 0⟩ [(65535 : Int) ≠ 0] (by kernel_rfl) ⟨(by decide), trivial⟩ ?_
            refine At.step hm ht ⟨[], [], [], [0, 3, 4, 5], []⟩ 3 ⟨[(0, .one (.c (.d (.sl (.int .u8) b)))), (3, .one (.c (.d (.int .u64 (Int.tmod (IntKind.wrap .u64 (x + (IntKind.wrap .u64 (b.getD i.toNat 0)))) 65535))))), (4, .one (.c (.d (.int .u64 (Int.tmod (IntKind.wrap .u64 (y + (Int.tmod (IntKind.wrap .u64 (x + (IntKind.wrap .u64 (b.getD i.toNat 0)))) 65535))) 65535))))), (5, .one (.c (.d (.int .i64 (IntKind.wrap .i64 (i + 1))))))], [], [], 0⟩ [] (by kernel_rfl) trivial ?_
            exact ih b (Int.tmod (IntKind.wrap .u64 (x + (IntKind.wrap .u64 (b.getD i.toNat 0)))) 65535) (Int.tmod (IntKind.wrap .u64 (y + (Int.tmod (IntKind.wrap .u64 (x + (IntKind.wrap .u64 (b.getD i.toNat 0)))) 65535))) 65535) (IntKind.wrap .i64 (i + 1)) w h o hk
          · refine At.step hm ht ⟨[(3, .b false)], [false], [], [0, 3, 4, 5], []⟩ 4 ⟨[(0, .one (.c (.d (.sl (.int .u8) b)))), (3, .one (.c (.d (.int .u64 (IntKind.wrap .u64 (x + (IntKind.wrap .u64 (b.getD i.toNat 0)))))))), (4, .one (.c (.d (.int .u64 y)))), (5, .one (.c (.d (.int .i64 i))))], [], [], 0⟩ [(2 : Int) ≠ 0, (((Int.tmod i 2) : Int) == 1) = false, ((i : Int) == (IntKind.wrap .i64 (((b.length : Nat) : Int) - 1))) = false] (by kernel_rfl) ⟨(by decide), b622_3, b622_e0, trivial⟩ ?_
            refine At.step hm ht ⟨[], [], [], [0, 3, 4, 5], []⟩ 3 ⟨[(0, .one (.c (.d (.sl (.int .u8) b)))), (3, .one (.c (.d (.int .u64 (IntKind.wrap .u64 (x + (IntKind.wrap .u64 (b.getD i.toNat 0)))))))), (4, .one (.c (.d (.int .u64 y)))), (5, .one (.c (.d (.int .i64 (IntKind.wrap .i64 (i + 1))))))], [], [], 0⟩ [] (by kernel_rfl) trivial ?_
            exact ih b (IntKind.wrap .u64 (x + (IntKind.wrap .u64 (b.getD i.toNat 0)))) y (IntKind.wrap .i64 (i + 1)) w h o hk
    · refine At.step hm ht ⟨[], [false], [], [3, 4], []⟩ 12 ⟨[(3, .one (.c (.d (.int .u64 x)))), (4, .one (.c (.d (.int .u64 y))))], [], [], 0⟩ [(decide ((i : Int) < ((b.length : Nat) : Int))) = false] (by kernel_rfl) ⟨b608_e0, trivial⟩ ?_
      have h := Option.some.inj h
      subst h
      exact hk
def f26_broughamref34_Sum (n : Nat) (b : List Int) : Option (Int) :=
  (f26_broughamref34_Sum_L3 n b 0 0 0).bind fun w630 =>
  some (IntKind.wrap .u32 (IntKind.wrap .u64 ((IntKind.wrap .u64 (w630.2 * 65536)) + w630.1)))
theorem f26_broughamref34_Sum_ok (n : Nat) (b : List Int) (r : Int) (h : f26_broughamref34_Sum n b = some r) : FnOK Go.Proofs.Try.prog 26 (f26_broughamref34_Sum_in b) (f26_broughamref34_Sum_out r) := by
  unfold f26_broughamref34_Sum at h
  refine At.fn (r := 0) Go.Proofs.Try.func26 rfl (by kernel_rfl) rfl rfl (by kernel_rfl) ?_
  show At Go.Proofs.Try.prog Go.Proofs.Try.f26 0 0 ⟨[(0, .one (.c (.d (.sl (.int .u8) b))))], [], [], 0⟩ _
  refine At.step hm ht ⟨[], [], [], [0], []⟩ 1 ⟨[(0, .one (.c (.d (.sl (.int .u8) b))))], [], [], 0⟩ [] (by kernel_rfl) trivial ?_
  refine At.step hm ht ⟨[], [], [], [0, 3, 4], []⟩ 2 ⟨[(0, .one (.c (.d (.sl (.int .u8) b)))), (3, .one (.c (.d (.int .u64 0)))), (4, .one (.c (.d (.int .u64 0))))], [], [], 0⟩ [] (by kernel_rfl) trivial ?_
  refine At.step hm ht ⟨[], [], [], [0, 3, 4, 5], []⟩ 3 ⟨[(0, .one (.c (.d (.sl (.int .u8) b)))), (3, .one (.c (.d (.int .u64 0)))), (4, .one (.c (.d (.int .u64 0)))), (5, .one (.c (.d (.int .i64 0))))], [], [], 0⟩ [] (by kernel_rfl) trivial ?_
  obtain ⟨w630, cw630, h⟩ := bindS h
  refine f26_broughamref34_Sum_L3_ok n b 0 0 0 w630 cw630 _ ?_
  show At Go.Proofs.Try.prog Go.Proofs.Try.f26 0 12 ⟨[(3, .one (.c (.d (.int .u64 w630.1)))), (4, .one (.c (.d (.int .u64 w630.2))))], [], [], 0⟩ _
  have h := Option.some.inj h
  subst h
  exact At.fin hm ht ⟨[], [], [], [2], []⟩ [] (by kernel_rfl) trivial
/-! brougham/broughamref34.Encode -/
def f21_broughamref34_Encode_in (l : List (Int × Int × Int × ByteArray)) : Inn := ⟨[.c (.d (.sl (.pair (.int .i64) (.pair (.int .i64) (.pair (.int .i64) .str))) l))], [], [], 0⟩
def f21_broughamref34_Encode_out (r : List Int × Bool) : Out := ⟨.tup [.c (.own 0 (.int .u8) r.1), .c (.d (.bool r.2))], [(0, ⟨5, 0⟩)], [], 1⟩
def f21_broughamref34_Encode_L6 : Nat → (List (Int × Int × Int × ByteArray)) → (List Int) → Int → Int → Option (List Int)
  | 0, _, _, _, _ => none
  | n + 1, l, b, last, i =>
    if (decide ((i : Int) < ((l.length : Nat) : Int))) = true then
      if (0 : Int) ≤ i ∧ i < (((l).length : Nat) : Int) then
      (f82_broughamref02_Put_v2 n b (IntKind.wrap .u64 (IntKind.wrap .i64 (((l.getD i.toNat (0, (0, (0, ByteArray.empty)))).1) - last))) 4).bind fun r640_1 =>
      if (0 : Int) ≤ i ∧ i < (((l).length : Nat) : Int) then
      if (0 : Int) ≤ i ∧ i < (((l).length : Nat) : Int) then
      if r640_1.length + [(IntKind.wrap .u8 (IntKind.wrap .i64 ((IntKind.wrap .i64 (128 * (((l.getD i.toNat (0, (0, (0, ByteArray.empty)))).2).1))) + ((((l.getD i.toNat (0, (0, (0, ByteArray.empty)))).2).2).1))))].length ≤ maxLen ∧ (r640_1.length + [(IntKind.wrap .u8 (IntKind.wrap .i64 ((IntKind.wrap .i64 (128 * (((l.getD i.toNat (0, (0, (0, ByteArray.empty)))).2).1))) + ((((l.getD i.toNat (0, (0, (0, ByteArray.empty)))).2).2).1))))].length) * 1 ≤ 140737488355328 then
      if (0 : Int) ≤ i ∧ i < (((l).length : Nat) : Int) then
      (f82_broughamref02_Put_v2 n (r640_1 ++ [(IntKind.wrap .u8 (IntKind.wrap .i64 ((IntKind.wrap .i64 (128 * (((l.getD i.toNat (0, (0, (0, ByteArray.empty)))).2).1))) + ((((l.getD i.toNat (0, (0, (0, ByteArray.empty)))).2).2).1))))]) (IntKind.wrap .u64 ((((((l.getD i.toNat (0, (0, (0, ByteArray.empty)))).2).2).2).size : Nat) : Int)) 2).bind fun r642_1 =>
      if (0 : Int) ≤ i ∧ i < (((l).length : Nat) : Int) then
      if r642_1.length + (bytesOf ((((l.getD i.toNat (0, (0, (0, ByteArray.empty)))).2).2).2)).length ≤ maxLen ∧ (r642_1.length + (bytesOf ((((l.getD i.toNat (0, (0, (0, ByteArray.empty)))).2).2).2)).length) * 1 ≤ 140737488355328 then
      if (0 : Int) ≤ i ∧ i < (((l).length : Nat) : Int) then
      f21_broughamref34_Encode_L6 n l (r642_1 ++ (bytesOf ((((l.getD i.toNat (0, (0, (0, ByteArray.empty)))).2).2).2))) ((l.getD i.toNat (0, (0, (0, ByteArray.empty)))).1) (IntKind.wrap .i64 (i + 1))
      else none
      else none
      else none
      else none
      else none
      else none
      else none
      else none
    else
      some (b)
def f21_broughamref34_Encode_L6_k (e : List Int) (o : Out) : Prop := At Go.Proofs.Try.prog Go.Proofs.Try.f21 0 13 ⟨[(4, .one (.c (.own 0 (.int .u8) e)))], [(0, some ⟨5, 0⟩)], [], 1⟩ o
theorem f21_broughamref34_Encode_L6_ok (n : Nat) : ∀ (l : List (Int × Int × Int × ByteArray)) (b : List Int) (last : Int) (i : Int) (w : List Int) (h : f21_broughamref34_Encode_L6 n l b last i = some w) (o : Out) (hk : f21_broughamref34_Encode_L6_k w o), At Go.Proofs.Try.prog Go.Proofs.Try.f21 0 6 ⟨[(0, .one (.c (.d (.sl (.pair (.int .i64) (.pair (.int .i64) (.pair (.int .i64) .str))) l)))), (4, .one (.c (.own 0 (.int .u8) b))), (5, .one (.c (.d (.int .i64 last)))), (6, .one (.c (.d (.int .i64 i))))], [(0, some ⟨5, 0⟩)], [], 1⟩ o := by
  induction n with
  | zero => intro l b last i w h; rw [f21_broughamref34_Encode_L6] at h; cases h
  | succ n ih =>
    intro l b last i w h o hk
    rw [f21_broughamref34_Encode_L6] at h
    rcases iteS h with ⟨b639_e0, h⟩ | ⟨b639_e0, h⟩
    · refine At.step hm ht ⟨[], [true], [], [0, 4, 5, 6], [0]⟩ 8 ⟨[(0, .one (.c (.d (.sl (.pair (.int .i64) (.pair (.int .i64) (.pair (.int .i64) .str))) l)))), (4, .one (.c (.own 0 (.int .u8) b))), (5, .one (.c (.d (.int .i64 last)))), (6, .one (.c (.d (.int .i64 i))))], [(0, some ⟨5, 0⟩)], [], 1⟩ [(decide ((i : Int) < ((l.length : Nat) : Int))) = true] (by kernel_rfl) ⟨b639_e0, trivial⟩ ?_
      obtain ⟨g640_0, h⟩ := ifS h
      obtain ⟨r640_1, cr640_1, h⟩ := bindS h
      refine At.step hm ht ⟨[(9, .call [0] [] (f82_broughamref02_Put_v2_out r640_1))], [], [], [0, 4, 6], [11]⟩ 9 ⟨[(0, .one (.c (.d (.sl (.pair (.int .i64) (.pair (.int .i64) (.pair (.int .i64) .str))) l)))), (4, .one (.c (.own 0 (.int .u8) r640_1))), (6, .one (.c (.d (.int .i64 i))))], [(0, some ⟨5, 0⟩)], [], 1⟩ [(0 : Int) ≤ i ∧ i < (((l).length : Nat) : Int), FnOK Go.Proofs.Try.prog 82 (f82_broughamref02_Put_v2_in b (IntKind.wrap .u64 (IntKind.wrap .i64 (((l.getD i.toNat (0, (0, (0, ByteArray.empty)))).1) - last))) 4) (f82_broughamref02_Put_v2_out r640_1)] (by kernel_rfl) ⟨g640_0, (f82_broughamref02_Put_v2_ok n b (IntKind.wrap .u64 (IntKind.wrap .i64 (((l.getD i.toNat (0, (0, (0, ByteArray.empty)))).1) - last))) 4 r640_1 cr640_1), trivial⟩ ?_
      obtain ⟨g641_0, h⟩ := ifS h
      obtain ⟨g641_1, h⟩ := ifS h
      obtain ⟨g641_2, h⟩ := ifS h
      refine At.step hm ht ⟨[], [], [], [0, 4, 6], [16]⟩ 10 ⟨[(0, .one (.c (.d (.sl (.pair (.int .i64) (.pair (.int .i64) (.pair (.int .i64) .str))) l)))), (4, .one (.c (.own 0 (.int .u8) (r640_1 ++ [(IntKind.wrap .u8 (IntKind.wrap .i64 ((IntKind.wrap .i64 (128 * (((l.getD i.toNat (0, (0, (0, ByteArray.empty)))).2).1))) + ((((l.getD i.toNat (0, (0, (0, ByteArray.empty)))).2).2).1))))])))), (6, .one (.c (.d (.int .i64 i))))], [(0, some ⟨5, 0⟩)], [], 1⟩ [(0 : Int) ≤ i ∧ i < (((l).length : Nat) : Int), (0 : Int) ≤ i ∧ i < (((l).length : Nat) : Int), r640_1.length + [(IntKind.wrap .u8 (IntKind.wrap .i64 ((IntKind.wrap .i64 (128 * (((l.getD i.toNat (0, (0, (0, ByteArray.empty)))).2).1))) + ((((l.getD i.toNat (0, (0, (0, ByteArray.empty)))).2).2).1))))].length ≤ maxLen ∧ (r640_1.length + [(IntKind.wrap .u8 (IntKind.wrap .i64 ((IntKind.wrap .i64 (128 * (((l.getD i.toNat (0, (0, (0, ByteArray.empty)))).2).1))) + ((((l.getD i.toNat (0, (0, (0, ByteArray.empty)))).2).2).1))))].length) * 1 ≤ 140737488355328] (by kernel_rfl) ⟨g641_0, g641_1, g641_2, trivial⟩ ?_
      obtain ⟨g642_0, h⟩ := ifS h
      obtain ⟨r642_1, cr642_1, h⟩ := bindS h
      refine At.step hm ht ⟨[(8, .call [0] [] (f82_broughamref02_Put_v2_out r642_1))], [], [], [0, 4, 6], [10]⟩ 11 ⟨[(0, .one (.c (.d (.sl (.pair (.int .i64) (.pair (.int .i64) (.pair (.int .i64) .str))) l)))), (4, .one (.c (.own 0 (.int .u8) r642_1))), (6, .one (.c (.d (.int .i64 i))))], [(0, some ⟨5, 0⟩)], [], 1⟩ [(0 : Int) ≤ i ∧ i < (((l).length : Nat) : Int), FnOK Go.Proofs.Try.prog 82 (f82_broughamref02_Put_v2_in (r640_1 ++ [(IntKind.wrap .u8 (IntKind.wrap .i64 ((IntKind.wrap .i64 (128 * (((l.getD i.toNat (0, (0, (0, ByteArray.empty)))).2).1))) + ((((l.getD i.toNat (0, (0, (0, ByteArray.empty)))).2).2).1))))]) (IntKind.wrap .u64 ((((((l.getD i.toNat (0, (0, (0, ByteArray.empty)))).2).2).2).size : Nat) : Int)) 2) (f82_broughamref02_Put_v2_out r642_1)] (by kernel_rfl) ⟨g642_0, (f82_broughamref02_Put_v2_ok n (r640_1 ++ [(IntKind.wrap .u8 (IntKind.wrap .i64 ((IntKind.wrap .i64 (128 * (((l.getD i.toNat (0, (0, (0, ByteArray.empty)))).2).1))) + ((((l.getD i.toNat (0, (0, (0, ByteArray.empty)))).2).2).1))))]) (IntKind.wrap .u64 ((((((l.getD i.toNat (0, (0, (0, ByteArray.empty)))).2).2).2).size : Nat) : Int)) 2 r642_1 cr642_1), trivial⟩ ?_
      obtain ⟨g643_0, h⟩ := ifS h
      obtain ⟨g643_1, h⟩ := ifS h
      refine At.step hm ht ⟨[], [], [], [0, 4, 6], [7]⟩ 12 ⟨[(0, .one (.c (.d (.sl (.pair (.int .i64) (.pair (.int .i64) (.pair (.int .i64) .str))) l)))), (4, .one (.c (.own 0 (.int .u8) (r642_1 ++ (bytesOf ((((l.getD i.toNat (0, (0, (0, ByteArray.empty)))).2).2).2)))))), (6, .one (.c (.d (.int .i64 i))))], [(0, some ⟨5, 0⟩)], [], 1⟩ [(0 : Int) ≤ i ∧ i < (((l).length : Nat) : Int), r642_1.length + (bytesOf ((((l.getD i.toNat (0, (0, (0, ByteArray.empty)))).2).2).2)).length ≤ maxLen ∧ (r642_1.length + (bytesOf ((((l.getD i.toNat (0, (0, (0, ByteArray.empty)))).2).2).2)).length) * 1 ≤ 140737488355328] (by kernel_rfl) ⟨g643_0, g643_1, trivial⟩ ?_
      obtain ⟨g644_0, h⟩ := ifS h
      refine At.step hm ht ⟨[], [], [], [0, 4, 5, 6], [0]⟩ 7 ⟨[(0, .one (.c (.d (.sl (.pair (.int .i64) (.pair (.int .i64) (.pair (.int .i64) .str))) l)))), (4, .one (.c (.own 0 (.int .u8) (r642_1 ++ (bytesOf ((((l.getD i.toNat (0, (0, (0, ByteArray.empty)))).2).2).2)))))), (5, .one (.c (.d (.int .i64 ((l.getD i.toNat (0, (0, (0, ByteArray.empty)))).1))))), (6, .one (.c (.d (.int .i64 i))))], [(0, some ⟨5, 0⟩)], [], 1⟩ [(0 : Int) ≤ i ∧ i < (((l).length : Nat) : Int)] (by kernel_rfl) ⟨g644_0, trivial⟩ ?_
      refine At.step hm ht ⟨[], [], [], [0, 4, 5, 6], [0]⟩ 6 ⟨[(0, .one (.c (.d (.sl (.pair (.int .i64) (.pair (.int .i64) (.pair (.int .i64) .str))) l)))), (4, .one (.c (.own 0 (.int .u8) (r642_1 ++ (bytesOf ((((l.getD i.toNat (0, (0, (0, ByteArray.empty)))).2).2).2)))))), (5, .one (.c (.d (.int .i64 ((l.getD i.toNat (0, (0, (0, ByteArray.empty)))).1))))), (6, .one (.c (.d (.int .i64 (IntKind.wrap .i64 (i + 1))))))], [(0, some ⟨5, 0⟩)], [], 1⟩ [] (by kernel_rfl) trivial ?_
      exact ih l (r642_1 ++ (bytesOf ((((l.getD i.toNat (0, (0, (0, ByteArray.empty)))).2).2).2))) ((l.getD i.toNat (0, (0, (0, ByteArray.empty)))).1) (IntKind.wrap .i64 (i + 1)) w h o hk
    · refine At.step hm ht ⟨[], [false], [], [4], [0]⟩ 13 ⟨[(4, .one (.c (.own 0 (.int .u8) b)))], [(0, some ⟨5, 0⟩)], [], 1⟩ [(decide ((i : Int) < ((l.length : Nat) : Int))) = false] (by kernel_rfl) ⟨b639_e0, trivial⟩ ?_
      have h := Option.some.inj h
      subst h
      exact hk
def f21_broughamref34_Encode (n : Nat) (l : List (Int × Int × Int × ByteArray)) : Option (List Int × Bool) :=
  (f24_broughamref34_Right n l).bind fun r634_0 =>
  if (!r634_0) = true then
    some ([], false)
  else
    (f82_broughamref02_Put n 1112690517 4).bind fun r636_0 =>
    (f82_broughamref02_Put_v2 n r636_0 (IntKind.wrap .u64 ((l.length : Nat) : Int)) 2).bind fun r636_1 =>
    (f21_broughamref34_Encode_L6 n l r636_1 0 0).bind fun w646 =>
    (f26_broughamref34_Sum n w646).bind fun r648_0 =>
    (f82_broughamref02_Put_v2 n w646 (IntKind.wrap .u64 r648_0) 4).bind fun r648_1 =>
    some (r648_1, true)
theorem f21_broughamref34_Encode_ok (n : Nat) (l : List (Int × Int × Int × ByteArray)) (r : List Int × Bool) (h : f21_broughamref34_Encode n l = some r) : FnOK Go.Proofs.Try.prog 21 (f21_broughamref34_Encode_in l) (f21_broughamref34_Encode_out r) := by
  unfold f21_broughamref34_Encode at h
  refine At.fn (r := 0) Go.Proofs.Try.func21 rfl (by kernel_rfl) rfl rfl (by kernel_rfl) ?_
  show At Go.Proofs.Try.prog Go.Proofs.Try.f21 0 0 ⟨[(0, .one (.c (.d (.sl (.pair (.int .i64) (.pair (.int .i64) (.pair (.int .i64) .str))) l))))], [], [], 0⟩ _
  refine At.step hm ht ⟨[], [], [], [0], []⟩ 1 ⟨[(0, .one (.c (.d (.sl (.pair (.int .i64) (.pair (.int .i64) (.pair (.int .i64) .str))) l))))], [], [], 0⟩ [] (by kernel_rfl) trivial ?_
  obtain ⟨r634_0, cr634_0, h⟩ := bindS h
  rcases iteS h with ⟨b634_e0, h⟩ | ⟨b634_e0, h⟩
  · refine At.step hm ht ⟨[(1, .call [] [] (f24_broughamref34_Right_out r634_0))], [true], [], [], []⟩ 2 ⟨[], [], [], 0⟩ [FnOK Go.Proofs.Try.prog 24 (f24_broughamref34_Right_in l) (f24_broughamref34_Right_out r634_0), (!r634_0) = true] (by kernel_rfl) ⟨(f24_broughamref34_Right_ok n l r634_0 cr634_0), b634_e0, trivial⟩ ?_
    have h := Option.some.inj h
    subst h
    exact At.fin hm ht ⟨[], [], [.nil false 2 0 (.int .u8) (some 5)], [2, 3], [2]⟩ [] (by kernel_rfl) trivial
  · refine At.step hm ht ⟨[(1, .call [] [] (f24_broughamref34_Right_out r634_0))], [false], [], [0], []⟩ 3 ⟨[(0, .one (.c (.d (.sl (.pair (.int .i64) (.pair (.int .i64) (.pair (.int .i64) .str))) l))))], [], [], 0⟩ [FnOK Go.Proofs.Try.prog 24 (f24_broughamref34_Right_in l) (f24_broughamref34_Right_out r634_0), (!r634_0) = false] (by kernel_rfl) ⟨(f24_broughamref34_Right_ok n l r634_0 cr634_0), b634_e0, trivial⟩ ?_
    obtain ⟨r636_0, cr636_0, h⟩ := bindS h
    obtain ⟨r636_1, cr636_1, h⟩ := bindS h
    refine At.step hm ht ⟨[(0, .call [] [] (f82_broughamref02_Put_out r636_0)), (4, .call [0] [] (f82_broughamref02_Put_v2_out r636_1))], [], [], [0, 4], [5]⟩ 4 ⟨[(0, .one (.c (.d (.sl (.pair (.int .i64) (.pair (.int .i64) (.pair (.int .i64) .str))) l)))), (4, .one (.c (.own 0 (.int .u8) r636_1)))], [(0, some ⟨5, 0⟩)], [], 1⟩ [FnOK Go.Proofs.Try.prog 82 (f82_broughamref02_Put_in 1112690517 4) (f82_broughamref02_Put_out r636_0), FnOK Go.Proofs.Try.prog 82 (f82_broughamref02_Put_v2_in r636_0 (IntKind.wrap .u64 ((l.length : Nat) : Int)) 2) (f82_broughamref02_Put_v2_out r636_1)] (by kernel_rfl) ⟨(f82_broughamref02_Put_ok n 1112690517 4 r636_0 cr636_0), (f82_broughamref02_Put_v2_ok n r636_0 (IntKind.wrap .u64 ((l.length : Nat) : Int)) 2 r636_1 cr636_1), trivial⟩ ?_
    refine At.step hm ht ⟨[], [], [], [0, 4, 5], [0]⟩ 5 ⟨[(0, .one (.c (.d (.sl (.pair (.int .i64) (.pair (.int .i64) (.pair (.int .i64) .str))) l)))), (4, .one (.c (.own 0 (.int .u8) r636_1))), (5, .one (.c (.d (.int .i64 0))))], [(0, some ⟨5, 0⟩)], [], 1⟩ [] (by kernel_rfl) trivial ?_
    refine At.step hm ht ⟨[], [], [], [0, 4, 5, 6], [0]⟩ 6 ⟨[(0, .one (.c (.d (.sl (.pair (.int .i64) (.pair (.int .i64) (.pair (.int .i64) .str))) l)))), (4, .one (.c (.own 0 (.int .u8) r636_1))), (5, .one (.c (.d (.int .i64 0)))), (6, .one (.c (.d (.int .i64 0))))], [(0, some ⟨5, 0⟩)], [], 1⟩ [] (by kernel_rfl) trivial ?_
    obtain ⟨w646, cw646, h⟩ := bindS h
    refine f21_broughamref34_Encode_L6_ok n l r636_1 0 0 w646 cw646 _ ?_
    show At Go.Proofs.Try.prog Go.Proofs.Try.f21 0 13 ⟨[(4, .one (.c (.own 0 (.int .u8) w646)))], [(0, some ⟨5, 0⟩)], [], 1⟩ _
    obtain ⟨r648_0, cr648_0, h⟩ := bindS h
    obtain ⟨r648_1, cr648_1, h⟩ := bindS h
    have h := Option.some.inj h
    subst h
    exact At.fin hm ht ⟨[(2, .call [] [] (f26_broughamref34_Sum_out r648_0)), (4, .call [0] [] (f82_broughamref02_Put_v2_out r648_1))], [], [], [2, 3], [5]⟩ [FnOK Go.Proofs.Try.prog 26 (f26_broughamref34_Sum_in w646) (f26_broughamref34_Sum_out r648_0), FnOK Go.Proofs.Try.prog 82 (f82_broughamref02_Put_v2_in w646 (IntKind.wrap .u64 r648_0) 4) (f82_broughamref02_Put_v2_out r648_1)] (by kernel_rfl) ⟨(f26_broughamref34_Sum_ok n w646 r648_0 cr648_0), (f82_broughamref02_Put_v2_ok n w646 (IntKind.wrap .u64 r648_0) 4 r648_1 cr648_1), trivial⟩
/-! brougham/broughamlaw34.CaptureWrites -/
def f4_broughamlaw34_CaptureWrites_in (l : List (Int × Int × Int × List Int)) (b : List Int) : Inn := ⟨[.c (.d (.sl (.pair (.int .i64) (.pair (.int .i64) (.pair (.int .i64) (.slice (.int .u8))))) l)), .c (.d (.sl (.int .u8) b))], [], [], 0⟩
def f4_broughamlaw34_CaptureWrites_out (r : Bool) : Out := ⟨.one (.c (.d (.bool r))), [], [], 0⟩
def f4_broughamlaw34_CaptureWrites (n : Nat) (l : List (Int × Int × Int × List Int)) (b : List Int) : Option (Bool) :=
  (f19_broughamlaw34_great n l).bind fun r530_0 =>
  if r530_0 = true then
    some true
  else
    if (decide ((((b.length : Nat) : Int) : Int) > 5000)) = true then
      some true
    else
      (f20_capture_Encode n l).bind fun r533_0 =>
      (f22_broughamlaw34_plain n l).bind fun r534_0 =>
      (f21_broughamref34_Encode n r534_0).bind fun r534_1 =>
      if ((strOfNums r533_0.1).toList == (strOfNums r534_1.1).toList) = true then
        if (r533_0.2 == r534_1.2) = true then
          (f23_capture_Right n l).bind fun r649_0 =>
          (f22_broughamlaw34_plain n l).bind fun r649_1 =>
          (f24_broughamref34_Right n r649_1).bind fun r649_2 =>
          if (r649_0 == r649_2) = true then
            (f25_capture_Sum n b).bind fun r649_3 =>
            (f26_broughamref34_Sum n b).bind fun r649_4 =>
            if ((r649_3 : Int) == r649_4) = true then
              (f27_broughamlaw34_alive n).bind fun r649_5 =>
              some r649_5
            else
              some false
          else
            some false
        else
          some false
      else
        some false
theorem f4_broughamlaw34_CaptureWrites_ok (n : Nat) (l : List (Int × Int × Int × List Int)) (b : List Int) (r : Bool) (h : f4_broughamlaw34_CaptureWrites n l b = some r) : FnOK Go.Proofs.Try.prog 4 (f4_broughamlaw34_CaptureWrites_in l b) (f4_broughamlaw34_CaptureWrites_out r) := by
  unfold f4_broughamlaw34_CaptureWrites at h
  refine At.fn (r := 0) Go.Proofs.Try.func4 rfl (by kernel_rfl) rfl rfl (by kernel_rfl) ?_
  show At Go.Proofs.Try.prog Go.Proofs.Try.f4 0 0 ⟨[(0, .one (.c (.d (.sl (.pair (.int .i64) (.pair (.int .i64) (.pair (.int .i64) (.slice (.int .u8))))) l)))), (1, .one (.c (.d (.sl (.int .u8) b))))], [], [], 0⟩ _
  refine At.step hm ht ⟨[], [], [], [0, 1], []⟩ 1 ⟨[(0, .one (.c (.d (.sl (.pair (.int .i64) (.pair (.int .i64) (.pair (.int .i64) (.slice (.int .u8))))) l)))), (1, .one (.c (.d (.sl (.int .u8) b))))], [], [], 0⟩ [] (by kernel_rfl) trivial ?_
  obtain ⟨r530_0, cr530_0, h⟩ := bindS h
  rcases iteS h with ⟨b530_2, h⟩ | ⟨b530_2, h⟩
  · refine At.step hm ht ⟨[(1, .call [] [] (f19_broughamlaw34_great_out r530_0)), (2, .b true)], [true], [], [], []⟩ 2 ⟨[], [], [], 0⟩ [FnOK Go.Proofs.Try.prog 19 (f19_broughamlaw34_great_in l) (f19_broughamlaw34_great_out r530_0), r530_0 = true, true = true] (by kernel_rfl) ⟨(f19_broughamlaw34_great_ok n l r530_0 cr530_0), b530_2, rfl, trivial⟩ ?_
    have h := Option.some.inj h
    subst h
    exact At.fin hm ht ⟨[], [], [], [4], []⟩ [] (by kernel_rfl) trivial
  · rcases iteS h with ⟨b530_e0, h⟩ | ⟨b530_e0, h⟩
    · refine At.step hm ht ⟨[(1, .call [] [] (f19_broughamlaw34_great_out r530_0)), (2, .b false)], [true], [], [], []⟩ 2 ⟨[], [], [], 0⟩ [FnOK Go.Proofs.Try.prog 19 (f19_broughamlaw34_great_in l) (f19_broughamlaw34_great_out r530_0), r530_0 = false, (decide ((((b.length : Nat) : Int) : Int) > 5000)) = true] (by kernel_rfl) ⟨(f19_broughamlaw34_great_ok n l r530_0 cr530_0), b530_2, b530_e0, trivial⟩ ?_
      have h := Option.some.inj h
      subst h
      exact At.fin hm ht ⟨[], [], [], [4], []⟩ [] (by kernel_rfl) trivial
    · refine At.step hm ht ⟨[(1, .call [] [] (f19_broughamlaw34_great_out r530_0)), (2, .b false)], [false], [], [0, 1], []⟩ 3 ⟨[(0, .one (.c (.d (.sl (.pair (.int .i64) (.pair (.int .i64) (.pair (.int .i64) (.slice (.int .u8))))) l)))), (1, .one (.c (.d (.sl (.int .u8) b))))], [], [], 0⟩ [FnOK Go.Proofs.Try.prog 19 (f19_broughamlaw34_great_in l) (f19_broughamlaw34_great_out r530_0), r530_0 = false, (decide ((((b.length : Nat) : Int) : Int) > 5000)) = false] (by kernel_rfl) ⟨(f19_broughamlaw34_great_ok n l r530_0 cr530_0), b530_2, b530_e0, trivial⟩ ?_
      obtain ⟨r533_0, cr533_0, h⟩ := bindS h
      refine At.step hm ht ⟨[(1, .call [] [] (f20_capture_Encode_out r533_0))], [], [], [0, 1, 5, 6], [1]⟩ 4 ⟨[(0, .one (.c (.d (.sl (.pair (.int .i64) (.pair (.int .i64) (.pair (.int .i64) (.slice (.int .u8))))) l)))), (1, .one (.c (.d (.sl (.int .u8) b)))), (5, .one (.c (.own 0 (.int .u8) r533_0.1))), (6, .one (.c (.d (.bool r533_0.2))))], [(0, some ⟨5, 0⟩)], [], 1⟩ [FnOK Go.Proofs.Try.prog 20 (f20_capture_Encode_in l) (f20_capture_Encode_out r533_0)] (by kernel_rfl) ⟨(f20_capture_Encode_ok n l r533_0 cr533_0), trivial⟩ ?_
      obtain ⟨r534_0, cr534_0, h⟩ := bindS h
      obtain ⟨r534_1, cr534_1, h⟩ := bindS h
      refine At.step hm ht ⟨[(1, .call [] [] (f22_broughamlaw34_plain_out r534_0)), (2, .call [] [] (f21_broughamref34_Encode_out r534_1))], [], [], [0, 1, 5, 6, 7, 8], [0, 3]⟩ 5 ⟨[(0, .one (.c (.d (.sl (.pair (.int .i64) (.pair (.int .i64) (.pair (.int .i64) (.slice (.int .u8))))) l)))), (1, .one (.c (.d (.sl (.int .u8) b)))), (5, .one (.c (.own 0 (.int .u8) r533_0.1))), (6, .one (.c (.d (.bool r533_0.2)))), (7, .one (.c (.own 1 (.int .u8) r534_1.1))), (8, .one (.c (.d (.bool r534_1.2))))], [(0, some ⟨5, 0⟩), (1, some ⟨5, 0⟩)], [], 2⟩ [FnOK Go.Proofs.Try.prog 22 (f22_broughamlaw34_plain_in l) (f22_broughamlaw34_plain_out r534_0), FnOK Go.Proofs.Try.prog 21 (f21_broughamref34_Encode_in r534_0) (f21_broughamref34_Encode_out r534_1)] (by kernel_rfl) ⟨(f22_broughamlaw34_plain_ok n l r534_0 cr534_0), (f21_broughamref34_Encode_ok n r534_0 r534_1 cr534_1), trivial⟩ ?_
      rcases iteS h with ⟨b649_5, h⟩ | ⟨b649_5, h⟩
      · rcases iteS h with ⟨b649_10, h⟩ | ⟨b649_10, h⟩
        · obtain ⟨r649_0, cr649_0, h⟩ := bindS h
          obtain ⟨r649_1, cr649_1, h⟩ := bindS h
          obtain ⟨r649_2, cr649_2, h⟩ := bindS h
          rcases iteS h with ⟨b649_18, h⟩ | ⟨b649_18, h⟩
          · obtain ⟨r649_3, cr649_3, h⟩ := bindS h
            obtain ⟨r649_4, cr649_4, h⟩ := bindS h
            rcases iteS h with ⟨b649_25, h⟩ | ⟨b649_25, h⟩
            · obtain ⟨r649_5, cr649_5, h⟩ := bindS h
              have h := Option.some.inj h
              subst h
              exact At.fin hm ht ⟨[(5, .b true), (10, .b true), (12, .call [] [] (f23_capture_Right_out r649_0)), (14, .call [] [] (f22_broughamlaw34_plain_out r649_1)), (15, .call [] [] (f24_broughamref34_Right_out r649_2)), (18, .b true), (20, .call [] [] (f25_capture_Sum_out r649_3)), (22, .call [] [] (f26_broughamref34_Sum_out r649_4)), (25, .b true), (26, .call [] [] (f27_broughamlaw34_alive_out r649_5))], [], [], [4], []⟩ [((strOfNums r533_0.1).toList == (strOfNums r534_1.1).toList) = true, (r533_0.2 == r534_1.2) = true, FnOK Go.Proofs.Try.prog 23 (f23_capture_Right_in l) (f23_capture_Right_out r649_0), FnOK Go.Proofs.Try.prog 22 (f22_broughamlaw34_plain_in l) (f22_broughamlaw34_plain_out r649_1), FnOK Go.Proofs.Try.prog 24 (f24_broughamref34_Right_in r649_1) (f24_broughamref34_Right_out r649_2), (r649_0 == r649_2) = true, FnOK Go.Proofs.Try.prog 25 (f25_capture_Sum_in b) (f25_capture_Sum_out r649_3), FnOK Go.Proofs.Try.prog 26 (f26_broughamref34_Sum_in b) (f26_broughamref34_Sum_out r649_4), ((r649_3 : Int) == r649_4) = true, FnOK Go.Proofs.Try.prog 27 (f27_broughamlaw34_alive_in) (f27_broughamlaw34_alive_out r649_5)] (by kernel_rfl) ⟨b649_5, b649_10, (f23_capture_Right_ok n l r649_0 cr649_0), (f22_broughamlaw34_plain_ok n l r649_1 cr649_1), (f24_broughamref34_Right_ok n r649_1 r649_2 cr649_2), b649_18, (f25_capture_Sum_ok n b r649_3 cr649_3), (f26_broughamref34_Sum_ok n b r649_4 cr649_4), b649_25, (f27_broughamlaw34_alive_ok n r649_5 cr649_5), trivial⟩
            · have h := Option.some.inj h
              subst h
              exact At.fin hm ht ⟨[(5, .b true), (10, .b true), (12, .call [] [] (f23_capture_Right_out r649_0)), (14, .call [] [] (f22_broughamlaw34_plain_out r649_1)), (15, .call [] [] (f24_broughamref34_Right_out r649_2)), (18, .b true), (20, .call [] [] (f25_capture_Sum_out r649_3)), (22, .call [] [] (f26_broughamref34_Sum_out r649_4)), (25, .b false)], [], [], [4], []⟩ [((strOfNums r533_0.1).toList == (strOfNums r534_1.1).toList) = true, (r533_0.2 == r534_1.2) = true, FnOK Go.Proofs.Try.prog 23 (f23_capture_Right_in l) (f23_capture_Right_out r649_0), FnOK Go.Proofs.Try.prog 22 (f22_broughamlaw34_plain_in l) (f22_broughamlaw34_plain_out r649_1), FnOK Go.Proofs.Try.prog 24 (f24_broughamref34_Right_in r649_1) (f24_broughamref34_Right_out r649_2), (r649_0 == r649_2) = true, FnOK Go.Proofs.Try.prog 25 (f25_capture_Sum_in b) (f25_capture_Sum_out r649_3), FnOK Go.Proofs.Try.prog 26 (f26_broughamref34_Sum_in b) (f26_broughamref34_Sum_out r649_4), ((r649_3 : Int) == r649_4) = false] (by kernel_rfl) ⟨b649_5, b649_10, (f23_capture_Right_ok n l r649_0 cr649_0), (f22_broughamlaw34_plain_ok n l r649_1 cr649_1), (f24_broughamref34_Right_ok n r649_1 r649_2 cr649_2), b649_18, (f25_capture_Sum_ok n b r649_3 cr649_3), (f26_broughamref34_Sum_ok n b r649_4 cr649_4), b649_25, trivial⟩
          · have h := Option.some.inj h
            subst h
            exact At.fin hm ht ⟨[(5, .b true), (10, .b true), (12, .call [] [] (f23_capture_Right_out r649_0)), (14, .call [] [] (f22_broughamlaw34_plain_out r649_1)), (15, .call [] [] (f24_broughamref34_Right_out r649_2)), (18, .b false)], [], [], [4], []⟩ [((strOfNums r533_0.1).toList == (strOfNums r534_1.1).toList) = true, (r533_0.2 == r534_1.2) = true, FnOK Go.Proofs.Try.prog 23 (f23_capture_Right_in l) (f23_capture_Right_out r649_0), FnOK Go.Proofs.Try.prog 22 (f22_broughamlaw34_plain_in l) (f22_broughamlaw34_plain_out r649_1), FnOK Go.Proofs.Try.prog 24 (f24_broughamref34_Right_in r649_1) (f24_broughamref34_Right_out r649_2), (r649_0 == r649_2) = false] (by kernel_rfl) ⟨b649_5, b649_10, (f23_capture_Right_ok n l r649_0 cr649_0), (f22_broughamlaw34_plain_ok n l r649_1 cr649_1), (f24_broughamref34_Right_ok n r649_1 r649_2 cr649_2), b649_18, trivial⟩
        · have h := Option.some.inj h
          subst h
          exact At.fin hm ht ⟨[(5, .b true), (10, .b false)], [], [], [4], []⟩ [((strOfNums r533_0.1).toList == (strOfNums r534_1.1).toList) = true, (r533_0.2 == r534_1.2) = false] (by kernel_rfl) ⟨b649_5, b649_10, trivial⟩
      · have h := Option.some.inj h
        subst h
        exact At.fin hm ht ⟨[(5, .b false)], [], [], [4], []⟩ [((strOfNums r533_0.1).toList == (strOfNums r534_1.1).toList) = false] (by kernel_rfl) ⟨b649_5, trivial⟩
/-! brougham/broughamref02.Get -/
def f125_broughamref02_Get_in (b : List Int) (bytes : Int) : Inn := ⟨[.c (.d (.sl (.int .u8) b)), .c (.d (.int .i64 bytes))], [], [], 0⟩
def f125_broughamref02_Get_out (r : Int × List Int × Bool) : Out := ⟨.tup [.c (.d (.int .u64 r.1)), .c (.d (.sl (.int .u8) r.2.1)), .c (.d (.bool r.2.2))], [], [], 0⟩
def f125_broughamref02_Get_L5 : Nat → (List Int) → Int → Int → Int → Option (List Int × Int × Int)
  | 0, _, _, _, _ => none
  | n + 1, b, bytes, n_, i =>
    if (decide ((i : Int) < bytes)) = true then
      if (0 : Int) ≤ i ∧ i < (((b).length : Nat) : Int) then
      f125_broughamref02_Get_L5 n b bytes (IntKind.wrap .u64 ((IntKind.wrap .u64 (n_ * 256)) + (IntKind.wrap .u64 (b.getD i.toNat 0)))) (IntKind.wrap .i64 (i + 1))
      else none
    else
      some ((b, bytes, n_))
def f125_broughamref02_Get_L5_k (e : List Int × Int × Int) (o : Out) : Prop := At Go.Proofs.Try.prog Go.Proofs.Try.f125 0 8 ⟨[(0, .one (.c (.d (.sl (.int .u8) e.1)))), (1, .one (.c (.d (.int .i64 e.2.1)))), (7, .one (.c (.d (.int .u64 e.2.2))))], [], [], 0⟩ o
theorem f125_broughamref02_Get_L5_ok (n : Nat) : ∀ (b : List Int) (bytes : Int) (n_ : Int) (i : Int) (w : List Int × Int × Int) (h : f125_broughamref02_Get_L5 n b bytes n_ i = some w) (o : Out) (hk : f125_broughamref02_Get_L5_k w o), At Go.Proofs.Try.prog Go.Proofs.Try.f125 0 5 ⟨[(0, .one (.c (.d (.sl (.int .u8) b)))), (1, .one (.c (.d (.int .i64 bytes)))), (7, .one (.c (.d (.int .u64 n_)))), (8, .one (.c (.d (.int .i64 i))))], [], [], 0⟩ o := by
  induction n with
  | zero => intro b bytes n_ i w h; rw [f125_broughamref02_Get_L5] at h; cases h
  | succ n ih =>
    intro b bytes n_ i w h o hk
    rw [f125_broughamref02_Get_L5] at h
    rcases iteS h with ⟨b682_e0, h⟩ | ⟨b682_e0, h⟩
    · refine At.step hm ht ⟨[], [true], [], [0, 1, 7, 8], []⟩ 7 ⟨[(0, .one (.c (.d (.sl (.int .u8) b)))), (1, .one (.c (.d (.int .i64 bytes)))), (7, .one (.c (.d (.int .u64 n_)))), (8, .one (.c (.d (.int .i64 i))))], [], [], 0⟩ [(decide ((i : Int) < bytes)) = true] (by kernel_rfl) ⟨b682_e0, trivial⟩ ?_
      obtain ⟨g683_0, h⟩ := ifS h
      refine At.step hm ht ⟨[], [], [], [0, 1, 7, 8], []⟩ 6 ⟨[(0, .one (.c (.d (.sl (.int .u8) b)))), (1, .one (.c (.d (.int .i64 bytes)))), (7, .one (.c (.d (.int .u64 (IntKind.wrap .u64 ((IntKind.wrap .u64 (n_ * 256)) + (IntKind.wrap .u64 (b.getD i.toNat 0)))))))), (8, .one (.c (.d (.int .i64 i))))], [], [], 0⟩ [(0 : Int) ≤ i ∧ i < (((b).length : Nat) : Int)] (by kernel_rfl) ⟨g683_0, trivial⟩ ?_
      refine At.step hm ht ⟨[], [], [], [0, 1, 7, 8], []⟩ 5 ⟨[(0, .one (.c (.d (.sl (.int .u8) b)))), (1, .one (.c (.d (.int .i64 bytes)))), (7, .one (.c (.d (.int .u64 (IntKind.wrap .u64 ((IntKind.wrap .u64 (n_ * 256)) + (IntKind.wrap .u64 (b.getD i.toNat 0)))))))), (8, .one (.c (.d (.int .i64 (IntKind.wrap .i64 (i + 1))))))], [], [], 0⟩ [] (by kernel_rfl) trivial ?_
      exact ih b bytes (IntKind.wrap .u64 ((IntKind.wrap .u64 (n_ * 256)) + (IntKind.wrap .u64 (b.getD i.toNat 0)))) (IntKind.wrap .i64 (i + 1)) w h o hk
    · refine At.step hm ht ⟨[], [false], [], [0, 1, 7], []⟩ 8 ⟨[(0, .one (.c (.d (.sl (.int .u8) b)))), (1, .one (.c (.d (.int .i64 bytes)))), (7, .one (.c (.d (.int .u64 n_))))], [], [], 0⟩ [(decide ((i : Int) < bytes)) = false] (by kernel_rfl) ⟨b682_e0, trivial⟩ ?_
      have h := Option.some.inj h
      subst h
      exact hk
def f125_broughamref02_Get (n : Nat) (b : List Int) (bytes : Int) : Option (Int × List Int × Bool) :=
  if (decide ((bytes : Int) < 1)) = true then
    some (0, [], false)
  else
    if (decide ((bytes : Int) > 8)) = true then
      some (0, [], false)
    else
      if (decide ((((b.length : Nat) : Int) : Int) < bytes)) = true then
        some (0, [], false)
      else
        (f125_broughamref02_Get_L5 n b bytes 0 0).bind fun w685 =>
        if cutOk w685.1.length (some w685.2.1) none none then
        some (w685.2.2, ((w685.1.take w685.1.length).drop w685.2.1.toNat), true)
        else none
theorem f125_broughamref02_Get_ok (n : Nat) (b : List Int) (bytes : Int) (r : Int × List Int × Bool) (h : f125_broughamref02_Get n b bytes = some r) : FnOK Go.Proofs.Try.prog 125 (f125_broughamref02_Get_in b bytes) (f125_broughamref02_Get_out r) := by
  unfold f125_broughamref02_Get at h
  refine At.fn (r := 0) Go.Proofs.Try.func125 rfl (by kernel_rfl) rfl rfl (by kernel_rfl) ?_
  show At Go.Proofs.Try.prog Go.Proofs.Try.f125 0 0 ⟨[(0, .one (.c (.d (.sl (.int .u8) b)))), (1, .one (.c (.d (.int .i64 bytes))))], [], [], 0⟩ _
  refine At.step hm ht ⟨[], [], [], [0, 1], []⟩ 1 ⟨[(0, .one (.c (.d (.sl (.int .u8) b)))), (1, .one (.c (.d (.int .i64 bytes))))], [], [], 0⟩ [] (by kernel_rfl) trivial ?_
  rcases iteS h with ⟨b676_2, h⟩ | ⟨b676_2, h⟩
  · refine At.step hm ht ⟨[(2, .b true)], [true], [], [], []⟩ 2 ⟨[], [], [], 0⟩ [(decide ((bytes : Int) < 1)) = true, true = true] (by kernel_rfl) ⟨b676_2, rfl, trivial⟩ ?_
    have h := Option.some.inj h
    subst h
    exact At.fin hm ht ⟨[], [], [.nil false 5 0 (.int .u8) none], [4, 5, 6], []⟩ [] (by kernel_rfl) trivial
  · rcases iteS h with ⟨b676_6, h⟩ | ⟨b676_6, h⟩
    · refine At.step hm ht ⟨[(2, .b false), (6, .b true)], [true], [], [], []⟩ 2 ⟨[], [], [], 0⟩ [(decide ((bytes : Int) < 1)) = false, (decide ((bytes : Int) > 8)) = true, true = true] (by kernel_rfl) ⟨b676_2, b676_6, rfl, trivial⟩ ?_
      have h := Option.some.inj h
      subst h
      exact At.fin hm ht ⟨[], [], [.nil false 5 0 (.int .u8) none], [4, 5, 6], []⟩ [] (by kernel_rfl) trivial
    · rcases iteS h with ⟨b676_e0, h⟩ | ⟨b676_e0, h⟩
      · refine At.step hm ht ⟨[(2, .b false), (6, .b false)], [true], [], [], []⟩ 2 ⟨[], [], [], 0⟩ [(decide ((bytes : Int) < 1)) = false, (decide ((bytes : Int) > 8)) = false, (decide ((((b.length : Nat) : Int) : Int) < bytes)) = true] (by kernel_rfl) ⟨b676_2, b676_6, b676_e0, trivial⟩ ?_
        have h := Option.some.inj h
        subst h
        exact At.fin hm ht ⟨[], [], [.nil false 5 0 (.int .u8) none], [4, 5, 6], []⟩ [] (by kernel_rfl) trivial
      · refine At.step hm ht ⟨[(2, .b false), (6, .b false)], [false], [], [0, 1], []⟩ 3 ⟨[(0, .one (.c (.d (.sl (.int .u8) b)))), (1, .one (.c (.d (.int .i64 bytes))))], [], [], 0⟩ [(decide ((bytes : Int) < 1)) = false, (decide ((bytes : Int) > 8)) = false, (decide ((((b.length : Nat) : Int) : Int) < bytes)) = false] (by kernel_rfl) ⟨b676_2, b676_6, b676_e0, trivial⟩ ?_
        refine At.step hm ht ⟨[], [], [], [0, 1, 7], []⟩ 4 ⟨[(0, .one (.c (.d (.sl (.int .u8) b)))), (1, .one (.c (.d (.int .i64 bytes)))), (7, .one (.c (.d (.int .u64 0))))], [], [], 0⟩ [] (by kernel_rfl) trivial ?_
        refine At.step hm ht ⟨[], [], [], [0, 1, 7, 8], []⟩ 5 ⟨[(0, .one (.c (.d (.sl (.int .u8) b)))), (1, .one (.c (.d (.int .i64 bytes)))), (7, .one (.c (.d (.int .u64 0)))), (8, .one (.c (.d (.int .i64 0))))], [], [], 0⟩ [] (by kernel_rfl) trivial ?_
        obtain ⟨w685, cw685, h⟩ := bindS h
        refine f125_broughamref02_Get_L5_ok n b bytes 0 0 w685 cw685 _ ?_
        show At Go.Proofs.Try.prog Go.Proofs.Try.f125 0 8 ⟨[(0, .one (.c (.d (.sl (.int .u8) w685.1)))), (1, .one (.c (.d (.int .i64 w685.2.1)))), (7, .one (.c (.d (.int .u64 w685.2.2))))], [], [], 0⟩ _
        obtain ⟨g687_0, h⟩ := ifS h
        have h := Option.some.inj h
        subst h
        exact At.fin hm ht ⟨[], [], [], [4, 5, 6], []⟩ [cutOk w685.1.length (some w685.2.1) none none] (by kernel_rfl) ⟨g687_0, trivial⟩
/-! brougham/broughamref02.All -/
def f85_broughamref02_All_in (b : List Int) (sizes : List Int) : Inn := ⟨[.c (.d (.sl (.int .u8) b)), .c (.d (.sl (.int .i64) sizes))], [], [], 0⟩
def f85_broughamref02_All_out (r : List Int × List Int × Bool) : Out := ⟨.tup [.c (.own 0 (.int .u64) r.1), .c (.d (.sl (.int .u8) r.2.1)), .c (.d (.bool r.2.2))], [(0, ⟨22, 0⟩)], [], 1⟩
def f85_broughamref02_All_L3 : Nat → (List Int) → (List Int) → (List Int) → Int → Option ((List Int × List Int × Bool) ⊕ (List Int × List Int))
  | 0, _, _, _, _ => none
  | n + 1, b, sizes, out, i =>
    if (decide ((i : Int) < ((sizes.length : Nat) : Int))) = true then
      if (0 : Int) ≤ i ∧ i < (((sizes).length : Nat) : Int) then
      (f125_broughamref02_Get n b (sizes.getD i.toNat 0)).bind fun r711_1 =>
      if (!r711_1.2.2) = true then
        some (.inl ([], [], false))
      else
        if out.length + [r711_1.1].length ≤ maxLen ∧ (out.length + [r711_1.1].length) * 8 ≤ 140737488355328 then
        f85_broughamref02_All_L3 n r711_1.2.1 sizes (out ++ [r711_1.1]) (IntKind.wrap .i64 (i + 1))
        else none
      else none
    else
      some (.inr ((b, out)))
def f85_broughamref02_All_L3_k (w : (List Int × List Int × Bool) ⊕ (List Int × List Int)) (o : Out) : Prop := match w with
  | .inl e => o = f85_broughamref02_All_out e
  | .inr e => At Go.Proofs.Try.prog Go.Proofs.Try.f85 0 10 ⟨[(0, .one (.c (.d (.sl (.int .u8) e.1)))), (7, .one (.c (.own 0 (.int .u64) e.2)))], [(0, some ⟨22, 0⟩)], [], 1⟩ o
theorem f85_broughamref02_All_L3_ok (n : Nat) : ∀ (b : List Int) (sizes : List Int) (out : List Int) (i : Int) (w : (List Int × List Int × Bool) ⊕ (List Int × List Int)) (h : f85_broughamref02_All_L3 n b sizes out i = some w) (o : Out) (hk : f85_broughamref02_All_L3_k w o), At Go.Proofs.Try.prog Go.Proofs.Try.f85 0 3 ⟨[(0, .one (.c (.d (.sl (.int .u8) b)))), (1, .one (.c (.d (.sl (.int .i64) sizes)))), (7, .one (.c (.own 0 (.int .u64) out))), (8, .one (.c (.d (.int .i64 i))))], [(0, some ⟨22, 0⟩)], [], 1⟩ o := by
  induction n with
  | zero => intro b sizes out i w h; rw [f85_broughamref02_All_L3] at h; cases h
  | succ n ih =>
    intro b sizes out i w h o hk
    rw [f85_broughamref02_All_L3] at h
    rcases iteS h with ⟨b710_e0, h⟩ | ⟨b710_e0, h⟩
    · refine At.step hm ht ⟨[], [true], [], [0, 1, 7, 8], [0]⟩ 5 ⟨[(0, .one (.c (.d (.sl (.int .u8) b)))), (1, .one (.c (.d (.sl (.int .i64) sizes)))), (7, .one (.c (.own 0 (.int .u64) out))), (8, .one (.c (.d (.int .i64 i))))], [(0, some ⟨22, 0⟩)], [], 1⟩ [(decide ((i : Int) < ((sizes.length : Nat) : Int))) = true] (by kernel_rfl) ⟨b710_e0, trivial⟩ ?_
      obtain ⟨g711_0, h⟩ := ifS h
      obtain ⟨r711_1, cr711_1, h⟩ := bindS h
      refine At.step hm ht ⟨[(5, .call [] [] (f125_broughamref02_Get_out r711_1))], [], [], [1, 7, 8, 9, 10, 11], [0]⟩ 6 ⟨[(1, .one (.c (.d (.sl (.int .i64) sizes)))), (7, .one (.c (.own 0 (.int .u64) out))), (8, .one (.c (.d (.int .i64 i)))), (9, .one (.c (.d (.int .u64 r711_1.1)))), (10, .one (.c (.d (.sl (.int .u8) r711_1.2.1)))), (11, .one (.c (.d (.bool r711_1.2.2))))], [(0, some ⟨22, 0⟩)], [], 1⟩ [(0 : Int) ≤ i ∧ i < (((sizes).length : Nat) : Int), FnOK Go.Proofs.Try.prog 125 (f125_broughamref02_Get_in b (sizes.getD i.toNat 0)) (f125_broughamref02_Get_out r711_1)] (by kernel_rfl) ⟨g711_0, (f125_broughamref02_Get_ok n b (sizes.getD i.toNat 0) r711_1 cr711_1), trivial⟩ ?_
      rcases iteS h with ⟨b712_e0, h⟩ | ⟨b712_e0, h⟩
      · refine At.step hm ht ⟨[], [true], [], [], []⟩ 7 ⟨[], [], [], 0⟩ [(!r711_1.2.2) = true] (by kernel_rfl) ⟨b712_e0, trivial⟩ ?_
        have h := Option.some.inj h
        subst h
        have hk : o = f85_broughamref02_All_out ([], [], false) := hk
        subst hk
        exact At.fin hm ht ⟨[], [], [.nil false 4 0 (.int .u64) (some 22), .nil false 5 0 (.int .u8) none], [4, 5, 6], [3]⟩ [] (by kernel_rfl) trivial
      · refine At.step hm ht ⟨[], [false], [], [1, 7, 8, 9, 10], [0]⟩ 8 ⟨[(1, .one (.c (.d (.sl (.int .i64) sizes)))), (7, .one (.c (.own 0 (.int .u64) out))), (8, .one (.c (.d (.int .i64 i)))), (9, .one (.c (.d (.int .u64 r711_1.1)))), (10, .one (.c (.d (.sl (.int .u8) r711_1.2.1))))], [(0, some ⟨22, 0⟩)], [], 1⟩ [(!r711_1.2.2) = false] (by kernel_rfl) ⟨b712_e0, trivial⟩ ?_
        obtain ⟨g714_0, h⟩ := ifS h
        refine At.step hm ht ⟨[], [], [], [1, 7, 8, 10], [4]⟩ 9 ⟨[(1, .one (.c (.d (.sl (.int .i64) sizes)))), (7, .one (.c (.own 0 (.int .u64) (out ++ [r711_1.1])))), (8, .one (.c (.d (.int .i64 i)))), (10, .one (.c (.d (.sl (.int .u8) r711_1.2.1))))], [(0, some ⟨22, 0⟩)], [], 1⟩ [out.length + [r711_1.1].length ≤ maxLen ∧ (out.length + [r711_1.1].length) * 8 ≤ 140737488355328] (by kernel_rfl) ⟨g714_0, trivial⟩ ?_
        refine At.step hm ht ⟨[], [], [], [0, 1, 7, 8], [0]⟩ 4 ⟨[(0, .one (.c (.d (.sl (.int .u8) r711_1.2.1)))), (1, .one (.c (.d (.sl (.int .i64) sizes)))), (7, .one (.c (.own 0 (.int .u64) (out ++ [r711_1.1])))), (8, .one (.c (.d (.int .i64 i))))], [(0, some ⟨22, 0⟩)], [], 1⟩ [] (by kernel_rfl) trivial ?_
        refine At.step hm ht ⟨[], [], [], [0, 1, 7, 8], [0]⟩ 3 ⟨[(0, .one (.c (.d (.sl (.int .u8) r711_1.2.1)))), (1, .one (.c (.d (.sl (.int .i64) sizes)))), (7, .one (.c (.own 0 (.int .u64) (out ++ [r711_1.1])))), (8, .one (.c (.d (.int .i64 (IntKind.wrap .i64 (i + 1))))))], [(0, some ⟨22, 0⟩)], [], 1⟩ [] (by kernel_rfl) trivial ?_
        exact ih r711_1.2.1 sizes (out ++ [r711_1.1]) (IntKind.wrap .i64 (i + 1)) w h o hk
    · refine At.step hm ht ⟨[], [false], [], [0, 7], [0]⟩ 10 ⟨[(0, .one (.c (.d (.sl (.int .u8) b)))), (7, .one (.c (.own 0 (.int .u64) out)))], [(0, some ⟨22, 0⟩)], [], 1⟩ [(decide ((i : Int) < ((sizes.length : Nat) : Int))) = false] (by kernel_rfl) ⟨b710_e0, trivial⟩ ?_
      have h := Option.some.inj h
      subst h
      exact hk
def f85_broughamref02_All (n : Nat) (b : List Int) (sizes : List Int) : Option (List Int × List Int × Bool) :=
  (f85_broughamref02_All_L3 n b sizes [] 0).bind fun w717 =>
  match w717 with
  | .inl e718 =>
    some (e718.1, e718.2.1, e718.2.2)
  | .inr e719 =>
    some (e719.2, e719.1, true)
theorem f85_broughamref02_All_ok (n : Nat) (b : List Int) (sizes : List Int) (r : List Int × List Int × Bool) (h : f85_broughamref02_All n b sizes = some r) : FnOK Go.Proofs.Try.prog 85 (f85_broughamref02_All_in b sizes) (f85_broughamref02_All_out r) := by
  unfold f85_broughamref02_All at h
  refine At.fn (r := 0) Go.Proofs.Try.func85 rfl (by kernel_rfl) rfl rfl (by kernel_rfl) ?_
  show At Go.Proofs.Try.prog Go.Proofs.Try.f85 0 0 ⟨[(0, .one (.c (.d (.sl (.int .u8) b)))), (1, .one (.c (.d (.sl (.int .i64) sizes))))], [], [], 0⟩ _
  refine At.step hm ht ⟨[], [], [], [0, 1], []⟩ 1 ⟨[(0, .one (.c (.d (.sl (.int .u8) b)))), (1, .one (.c (.d (.sl (.int .i64) sizes))))], [], [], 0⟩ [] (by kernel_rfl) trivial ?_
  refine At.step hm ht ⟨[], [], [], [0, 1, 7], []⟩ 2 ⟨[(0, .one (.c (.d (.sl (.int .u8) b)))), (1, .one (.c (.d (.sl (.int .i64) sizes)))), (7, .one (.c (.d (.sl .unit []))))], [], [], 0⟩ [] (by kernel_rfl) trivial ?_
  refine At.step hm ht ⟨[], [], [.nil false 7 0 (.int .u64) (some 22)], [0, 1, 7, 8], [1]⟩ 3 ⟨[(0, .one (.c (.d (.sl (.int .u8) b)))), (1, .one (.c (.d (.sl (.int .i64) sizes)))), (7, .one (.c (.own 0 (.int .u64) []))), (8, .one (.c (.d (.int .i64 0))))], [(0, some ⟨22, 0⟩)], [], 1⟩ [] (by kernel_rfl) trivial ?_
  obtain ⟨w717, cw717, h⟩ := bindS h
  refine f85_broughamref02_All_L3_ok n b sizes [] 0 w717 cw717 _ ?_
  rcases w717 with e718 | e719
  · have h := Option.some.inj h
    subst h
    rfl
  · show At Go.Proofs.Try.prog Go.Proofs.Try.f85 0 10 ⟨[(0, .one (.c (.d (.sl (.int .u8) e719.1)))), (7, .one (.c (.own 0 (.int .u64) e719.2)))], [(0, some ⟨22, 0⟩)], [], 1⟩ _
    have h := Option.some.inj h
    subst h
    exact At.fin hm ht ⟨[], [], [], [4, 5, 6], [0]⟩ [] (by kernel_rfl) trivial
/-! brougham/broughamref34.Decode -/
def f29_broughamref34_Decode_in (b : List Int) : Inn := ⟨[.c (.d (.sl (.int .u8) b))], [], [], 0⟩
def f29_broughamref34_Decode_out (r : (List (Int × Int × Int × ByteArray)) × Bool) : Out := ⟨.tup [.c (.own 0 (.pair (.int .i64) (.pair (.int .i64) (.pair (.int .i64) .str))) r.1), .c (.d (.bool r.2))], [(0, ⟨84, 0⟩)], [], 1⟩
def f29_broughamref34_Decode_L7 : Nat → (List Int) → (List Int) → (List Int) → (List (Int × Int × Int × ByteArray)) → Int → Int → Option (((List (Int × Int × Int × ByteArray)) × Bool) ⊕ (List Int × List (Int × Int × Int × ByteArray)))
  | 0, _, _, _, _, _, _ => none
  | n + 1, b, head, rest_, out, tick, i =>
    if (0 : Int) ≤ 1 ∧ 1 < (((head).length : Nat) : Int) then
    if (decide ((i : Int) < (head.getD 1 0))) = true then
      (f85_broughamref02_All n rest_ [4, 1, 2]).bind fun r773_0 =>
      if (!r773_0.2.2) = true then
        some (.inl ([], false))
      else
        if (0 : Int) ≤ 2 ∧ 2 < (((r773_0.1).length : Nat) : Int) then
        if (decide (((r773_0.1.getD 2 0) : Int) > (IntKind.wrap .u64 ((r773_0.2.1.length : Nat) : Int)))) = true then
          some (.inl ([], false))
        else
          if (decide ((i : Int) ≥ 1024)) = true then
            some (.inl ([], false))
          else
            if (0 : Int) ≤ 0 ∧ 0 < (((r773_0.1).length : Nat) : Int) then
            if (decide (((IntKind.wrap .u64 (tick + (r773_0.1.getD 0 0))) : Int) > 2147483647)) = true then
              some (.inl ([], false))
            else
              if (0 : Int) ≤ 1 ∧ 1 < (((r773_0.1).length : Nat) : Int) then
              if (0 : Int) ≤ 1 ∧ 1 < (((r773_0.1).length : Nat) : Int) then
              if (0 : Int) ≤ 2 ∧ 2 < (((r773_0.1).length : Nat) : Int) then
              if cutOk r773_0.2.1.length none (some (r773_0.1.getD 2 0)) none then
              if out.length + [((IntKind.wrap .i64 (IntKind.wrap .u64 (tick + (r773_0.1.getD 0 0)))), ((IntKind.wrap .i64 (IntKind.wrap .u64 (Int.tdiv (r773_0.1.getD 1 0) 128))), ((IntKind.wrap .i64 (Int.tmod (r773_0.1.getD 1 0) 128)), (strOfNums (r773_0.2.1.take (r773_0.1.getD 2 0).toNat)))))].length ≤ maxLen ∧ (out.length + [((IntKind.wrap .i64 (IntKind.wrap .u64 (tick + (r773_0.1.getD 0 0)))), ((IntKind.wrap .i64 (IntKind.wrap .u64 (Int.tdiv (r773_0.1.getD 1 0) 128))), ((IntKind.wrap .i64 (Int.tmod (r773_0.1.getD 1 0) 128)), (strOfNums (r773_0.2.1.take (r773_0.1.getD 2 0).toNat)))))].length) * 40 ≤ 140737488355328 then
              if (0 : Int) ≤ 2 ∧ 2 < (((r773_0.1).length : Nat) : Int) then
              if cutOk r773_0.2.1.length (some (r773_0.1.getD 2 0)) none none then
              f29_broughamref34_Decode_L7 n b head ((r773_0.2.1.take r773_0.2.1.length).drop (r773_0.1.getD 2 0).toNat) (out ++ [((IntKind.wrap .i64 (IntKind.wrap .u64 (tick + (r773_0.1.getD 0 0)))), ((IntKind.wrap .i64 (IntKind.wrap .u64 (Int.tdiv (r773_0.1.getD 1 0) 128))), ((IntKind.wrap .i64 (Int.tmod (r773_0.1.getD 1 0) 128)), (strOfNums (r773_0.2.1.take (r773_0.1.getD 2 0).toNat)))))]) (IntKind.wrap .u64 (tick + (r773_0.1.getD 0 0))) (IntKind.wrap .u64 (i + 1))
              else none
              else none
              else none
              else none
              else none
              else none
              else none
            else none
        else none
    else
      some (.inr ((b, out)))
    else none
def f29_broughamref34_Decode_L7_k (w : ((List (Int × Int × Int × ByteArray)) × Bool) ⊕ (List Int × List (Int × Int × Int × ByteArray))) (o : Out) : Prop := match w with
  | .inl e => o = f29_broughamref34_Decode_out e
  | .inr e => At Go.Proofs.Try.prog Go.Proofs.Try.f29 0 17 ⟨[(0, .one (.c (.d (.sl (.int .u8) e.1)))), (7, .one (.c (.own 0 (.pair (.int .i64) (.pair (.int .i64) (.pair (.int .i64) .str))) e.2)))], [(0, some ⟨84, 0⟩)], [], 1⟩ o
theorem f29_broughamref34_Decode_L7_ok (n : Nat) : ∀ (b : List Int) (head : List Int) (rest_ : List Int) (out : List (Int × Int × Int × ByteArray)) (tick : Int) (i : Int) (w : ((List (Int × Int × Int × ByteArray)) × Bool) ⊕ (List Int × List (Int × Int × Int × ByteArray))) (h : f29_broughamref34_Decode_L7 n b head rest_ out tick i = some w) (o : Out) (hk : f29_broughamref34_Decode_L7_k w o), At Go.Proofs.Try.prog Go.Proofs.Try.f29 0 7 ⟨[(0, .one (.c (.d (.sl (.int .u8) b)))), (4, .one (.c (.own 0 (.int .u64) head))), (5, .one (.c (.d (.sl (.int .u8) rest_)))), (7, .one (.c (.own 1 (.pair (.int .i64) (.pair (.int .i64) (.pair (.int .i64) .str))) out))), (8, .one (.c (.d (.int .u64 tick)))), (9, .one (.c (.d (.int .u64 i))))], [(0, some ⟨22, 0⟩), (1, some ⟨84, 0⟩)], [], 2⟩ o := by
  induction n with
  | zero => intro b head rest_ out tick i w h; rw [f29_broughamref34_Decode_L7] at h; cases h
  | succ n ih =>
    intro b head rest_ out tick i w h o hk
    rw [f29_broughamref34_Decode_L7] at h
    obtain ⟨g772_0, h⟩ := ifS h
    rcases iteS h with ⟨b772_e0, h⟩ | ⟨b772_e0, h⟩
    · refine At.step hm ht ⟨[], [true], [], [0, 4, 5, 7, 8, 9], [0, 1]⟩ 9 ⟨[(0, .one (.c (.d (.sl (.int .u8) b)))), (4, .one (.c (.own 0 (.int .u64) head))), (5, .one (.c (.d (.sl (.int .u8) rest_)))), (7, .one (.c (.own 1 (.pair (.int .i64) (.pair (.int .i64) (.pair (.int .i64) .str))) out))), (8, .one (.c (.d (.int .u64 tick)))), (9, .one (.c (.d (.int .u64 i))))], [(0, some ⟨22, 0⟩), (1, some ⟨84, 0⟩)], [], 2⟩ [(0 : Int) ≤ 1 ∧ 1 < (((head).length : Nat) : Int), (decide ((i : Int) < (head.getD 1 0))) = true] (by kernel_rfl) ⟨g772_0, b772_e0, trivial⟩ ?_
      obtain ⟨r773_0, cr773_0, h⟩ := bindS h
      refine At.step hm ht ⟨[(2, .call [] [] (f85_broughamref02_All_out r773_0))], [], [], [0, 4, 7, 8, 9, 10, 11, 12], [0, 1, 4]⟩ 10 ⟨[(0, .one (.c (.d (.sl (.int .u8) b)))), (4, .one (.c (.own 0 (.int .u64) head))), (7, .one (.c (.own 1 (.pair (.int .i64) (.pair (.int .i64) (.pair (.int .i64) .str))) out))), (8, .one (.c (.d (.int .u64 tick)))), (9, .one (.c (.d (.int .u64 i)))), (10, .one (.c (.own 2 (.int .u64) r773_0.1))), (11, .one (.c (.d (.sl (.int .u8) r773_0.2.1)))), (12, .one (.c (.d (.bool r773_0.2.2))))], [(0, some ⟨22, 0⟩), (1, some ⟨84, 0⟩), (2, some ⟨22, 0⟩)], [], 3⟩ [FnOK Go.Proofs.Try.prog 85 (f85_broughamref02_All_in rest_ [4, 1, 2]) (f85_broughamref02_All_out r773_0)] (by kernel_rfl) ⟨(f85_broughamref02_All_ok n rest_ [4, 1, 2] r773_0 cr773_0), trivial⟩ ?_
      rcases iteS h with ⟨b774_2, h⟩ | ⟨b774_2, h⟩
      · refine At.step hm ht ⟨[(2, .b true)], [true], [], [], []⟩ 11 ⟨[], [], [], 0⟩ [(!r773_0.2.2) = true, true = true] (by kernel_rfl) ⟨b774_2, rfl, trivial⟩ ?_
        have h := Option.some.inj h
        subst h
        have hk : o = f29_broughamref34_Decode_out ([], false) := hk
        subst hk
        exact At.fin hm ht ⟨[], [], [.nil false 2 0 (.pair (.int .i64) (.pair (.int .i64) (.pair (.int .i64) .str))) (some 84)], [2, 3], [2]⟩ [] (by kernel_rfl) trivial
      · obtain ⟨g774_0, h⟩ := ifS h
        rcases iteS h with ⟨b774_11, h⟩ | ⟨b774_11, h⟩
        · refine At.step hm ht ⟨[(2, .b false), (11, .b true)], [true], [], [], []⟩ 11 ⟨[], [], [], 0⟩ [(!r773_0.2.2) = false, (0 : Int) ≤ 2 ∧ 2 < (((r773_0.1).length : Nat) : Int), (decide (((r773_0.1.getD 2 0) : Int) > (IntKind.wrap .u64 ((r773_0.2.1.length : Nat) : Int)))) = true, true = true] (by kernel_rfl) ⟨b774_2, g774_0, b774_11, rfl, trivial⟩ ?_
          have h := Option.some.inj h
          subst h
          have hk : o = f29_broughamref34_Decode_out ([], false) := hk
          subst hk
          exact At.fin hm ht ⟨[], [], [.nil false 2 0 (.pair (.int .i64) (.pair (.int .i64) (.pair (.int .i64) .str))) (some 84)], [2, 3], [2]⟩ [] (by kernel_rfl) trivial
        · rcases iteS h with ⟨b774_e0, h⟩ | ⟨b774_e0, h⟩
          · refine At.step hm ht ⟨[(2, .b false), (11, .b false)], [true], [], [], []⟩ 11 ⟨[], [], [], 0⟩ [(!r773_0.2.2) = false, (0 : Int) ≤ 2 ∧ 2 < (((r773_0.1).length : Nat) : Int), (decide (((r773_0.1.getD 2 0) : Int) > (IntKind.wrap .u64 ((r773_0.2.1.length : Nat) : Int)))) = false, (decide ((i : Int) ≥ 1024)) = true] (by kernel_rfl) ⟨b774_2, g774_0, b774_11, b774_e0, trivial⟩ ?_
            have h := Option.some.inj h
            subst h
            have hk : o = f29_broughamref34_Decode_out ([], false) := hk
            subst hk
            exact At.fin hm ht ⟨[], [], [.nil false 2 0 (.pair (.int .i64) (.pair (.int .i64) (.pair (.int .i64) .str))) (some 84)], [2, 3], [2]⟩ [] (by kernel_rfl) trivial
          · refine At.step hm ht ⟨[(2, .b false), (11, .b false)], [false], [], [0, 4, 7, 8, 9, 10, 11], [0, 1, 2]⟩ 12 ⟨[(0, .one (.c (.d (.sl (.int .u8) b)))), (4, .one (.c (.own 0 (.int .u64) head))), (7, .one (.c (.own 1 (.pair (.int .i64) (.pair (.int .i64) (.pair (.int .i64) .str))) out))), (8, .one (.c (.d (.int .u64 tick)))), (9, .one (.c (.d (.int .u64 i)))), (10, .one (.c (.own 2 (.int .u64) r773_0.1))), (11, .one (.c (.d (.sl (.int .u8) r773_0.2.1))))], [(0, some ⟨22, 0⟩), (1, some ⟨84, 0⟩), (2, some ⟨22, 0⟩)], [], 3⟩ [(!r773_0.2.2) = false, (0 : Int) ≤ 2 ∧ 2 < (((r773_0.1).length : Nat) : Int), (decide (((r773_0.1.getD 2 0) : Int) > (IntKind.wrap .u64 ((r773_0.2.1.length : Nat) : Int)))) = false, (decide ((i : Int) ≥ 1024)) = false] (by kernel_rfl) ⟨b774_2, g774_0, b774_11, b774_e0, trivial⟩ ?_
            obtain ⟨g778_0, h⟩ := ifS h
            refine At.step hm ht ⟨[], [], [], [0, 4, 7, 8, 9, 10, 11], [0, 1, 2]⟩ 13 ⟨[(0, .one (.c (.d (.sl (.int .u8) b)))), (4, .one (.c (.own 0 (.int .u64) head))), (7, .one (.c (.own 1 (.pair (.int .i64) (.pair (.int .i64) (.pair (.int .i64) .str))) out))), (8, .one (.c (.d (.int .u64 (IntKind.wrap .u64 (tick + (r773_0.1.getD 0 0))))))), (9, .one (.c (.d (.int .u64 i)))), (10, .one (.c (.own 2 (.int .u64) r773_0.1))), (11, .one (.c (.d (.sl (.int .u8) r773_0.2.1))))], [(0, some ⟨22, 0⟩), (1, some ⟨84, 0⟩), (2, some ⟨22, 0⟩)], [], 3⟩ [(0 : Int) ≤ 0 ∧ 0 < (((r773_0.1).length : Nat) : Int)] (by kernel_rfl) ⟨g778_0, trivial⟩ ?_
            rcases iteS h with ⟨b779_e0, h⟩ | ⟨b779_e0, h⟩
            · refine At.step hm ht ⟨[], [true], [], [], []⟩ 14 ⟨[], [], [], 0⟩ [(decide (((IntKind.wrap .u64 (tick + (r773_0.1.getD 0 0))) : Int) > 2147483647)) = true] (by kernel_rfl) ⟨b779_e0, trivial⟩ ?_
              have h := Option.some.inj h
              subst h
              have hk : o = f29_broughamref34_Decode_out ([], false) := hk
              subst hk
              exact At.fin hm ht ⟨[], [], [.nil false 2 0 (.pair (.int .i64) (.pair (.int .i64) (.pair (.int .i64) .str))) (some 84)], [2, 3], [2]⟩ [] (by kernel_rfl) trivial
            · refine At.step hm ht ⟨[], [false], [], [0, 4, 7, 8, 9, 10, 11], [0, 1, 2]⟩ 15 ⟨[(0, .one (.c (.d (.sl (.int .u8) b)))), (4, .one (.c (.own 0 (.int .u64) head))), (7, .one (.c (.own 1 (.pair (.int .i64) (.pair (.int .i64) (.pair (.int .i64) .str))) out))), (8, .one (.c (.d (.int .u64 (IntKind.wrap .u64 (tick + (r773_0.1.getD 0 0))))))), (9, .one (.c (.d (.int .u64 i)))), (10, .one (.c (.own 2 (.int .u64) r773_0.1))), (11, .one (.c (.d (.sl (.int .u8) r773_0.2.1))))], [(0, some ⟨22, 0⟩), (1, some ⟨84, 0⟩), (2, some ⟨22, 0⟩)], [], 3⟩ [(decide (((IntKind.wrap .u64 (tick + (r773_0.1.getD 0 0))) : Int) > 2147483647)) = false] (by kernel_rfl) ⟨b779_e0, trivial⟩ ?_
              obtain ⟨g781_0, h⟩ := ifS h
              obtain ⟨g781_1, h⟩ := ifS h
              obtain ⟨g781_2, h⟩ := ifS h
              obtain ⟨g781_3, h⟩ := ifS h
              obtain ⟨g781_4, h⟩ := ifS h
              refine At.step hm ht ⟨[], [], [], [0, 4, 7, 8, 9, 10, 11], [0, 24, 2]⟩ 16 ⟨[(0, .one (.c (.d (.sl (.int .u8) b)))), (4, .one (.c (.own 0 (.int .u64) head))), (7, .one (.c (.own 1 (.pair (.int .i64) (.pair (.int .i64) (.pair (.int .i64) .str))) (out ++ [((IntKind.wrap .i64 (IntKind.wrap .u64 (tick + (r773_0.1.getD 0 0)))), ((IntKind.wrap .i64 (IntKind.wrap .u64 (Int.tdiv (r773_0.1.getD 1 0) 128))), ((IntKind.wrap .i64 (Int.tmod (r773_0.1.getD 1 0) 128)), (strOfNums (r773_0.2.1.take (r773_0.1.getD 2 0).toNat)))))])))), (8, .one (.c (.d (.int .u64 (IntKind.wrap .u64 (tick + (r773_0.1.getD 0 0))))))), (9, .one (.c (.d (.int .u64 i)))), (10, .one (.c (.own 2 (.int .u64) r773_0.1))), (11, .one (.c (.d (.sl (.int .u8) r773_0.2.1))))], [(0, some ⟨22, 0⟩), (1, some ⟨84, 0⟩), (2, some ⟨22, 0⟩)], [], 3⟩ [(0 : Int) ≤ 1 ∧ 1 < (((r773_0.1).length : Nat) : Int), (128 : Int) ≠ 0, (0 : Int) ≤ 1 ∧ 1 < (((r773_0.1).length : Nat) : Int), (128 : Int) ≠ 0, (0 : Int) ≤ 2 ∧ 2 < (((r773_0.1).length : Nat) : Int), cutOk r773_0.2.1.length none (some (r773_0.1.getD 2 0)) none, out.length + [((IntKind.wrap .i64 (IntKind.wrap .u64 (tick + (r773_0.1.getD 0 0)))), ((IntKind.wrap .i64 (IntKind.wrap .u64 (Int.tdiv (r773_0.1.getD 1 0) 128))), ((IntKind.wrap .i64 (Int.tmod (r773_0.1.getD 1 0) 128)), (strOfNums (r773_0.2.1.take (r773_0.1.getD 2 0).toNat)))))].length ≤ maxLen ∧ (out.length + [((IntKind.wrap .i64 (IntKind.wrap .u64 (tick + (r773_0.1.getD 0 0)))), ((IntKind.wrap .i64 (IntKind.wrap .u64 (Int.tdiv (r773_0.1.getD 1 0) 128))), ((IntKind.wrap .i64 (Int.tmod (r773_0.1.getD 1 0) 128)), (strOfNums (r773_0.2.1.take (r773_0.1.getD 2 0).toNat)))))].length) * 40 ≤ 140737488355328] (by kernel_rfl) ⟨g781_0, (by decide), g781_1, (by decide), g781_2, g781_3, g781_4, trivial⟩ ?_
              obtain ⟨g782_0, h⟩ := ifS h
              obtain ⟨g782_1, h⟩ := ifS h
              refine At.step hm ht ⟨[], [], [], [0, 4, 5, 7, 8, 9], [0, 1]⟩ 8 ⟨[(0, .one (.c (.d (.sl (.int .u8) b)))), (4, .one (.c (.own 0 (.int .u64) head))), (5, .one (.c (.d (.sl (.int .u8) ((r773_0.2.1.take r773_0.2.1.length).drop (r773_0.1.getD 2 0).toNat))))), (7, .one (.c (.own 1 (.pair (.int .i64) (.pair (.int .i64) (.pair (.int .i64) .str))) (out ++ [((IntKind.wrap .i64 (IntKind.wrap .u64 (tick + (r773_0.1.getD 0 0)))), ((IntKind.wrap .i64 (IntKind.wrap .u64 (Int.tdiv (r773_0.1.getD 1 0) 128))), ((IntKind.wrap .i64 (Int.tmod (r773_0.1.getD 1 0) 128)), (strOfNums (r773_0.2.1.take (r773_0.1.getD 2 0).toNat)))))])))), (8, .one (.c (.d (.int .u64 (IntKind.wrap .u64 (tick + (r773_0.1.getD 0 0))))))), (9, .one (.c (.d (.int .u64 i))))], [(0, some ⟨22, 0⟩), (1, some ⟨84, 0⟩)], [], 2⟩ [(0 : Int) ≤ 2 ∧ 2 < (((r773_0.1).length : Nat) : Int), cutOk r773_0.2.1.length (some (r773_0.1.getD 2 0)) none none] (by kernel_rfl) ⟨g782_0, g782_1, trivial⟩ ?_
              refine At.step hm ht ⟨[], [], [], [0, 4, 5, 7, 8, 9], [0, 1]⟩ 7 ⟨[(0, .one (.c (.d (.sl (.int .u8) b)))), (4, .one (.c (.own 0 (.int .u64) head))), (5, .one (.c (.d (.sl (.int .u8) ((r773_0.2.1.take r773_0.2.1.length).drop (r773_0.1.getD 2 0).toNat))))), (7, .one (.c (.own 1 (.pair (.int .i64) (.pair (.int .i64) (.pair (.int .i64) .str))) (out ++ [((IntKind.wrap .i64 (IntKind.wrap .u64 (tick + (r773_0.1.getD 0 0)))), ((IntKind.wrap .i64 (IntKind.wrap .u64 (Int.tdiv (r773_0.1.getD 1 0) 128))), ((IntKind.wrap .i64 (Int.tmod (r773_0.1.getD 1 0) 128)), (strOfNums (r773_0.2.1.take (r773_0.1.getD 2 0).toNat)))))])))), (8, .one (.c (.d (.int .u64 (IntKind.wrap .u64 (tick + (r773_0.1.getD 0 0))))))), (9, .one (.c (.d (.int .u64 (IntKind.wrap .u64 (i + 1))))))], [(0, some ⟨22, 0⟩), (1, some ⟨84, 0⟩)], [], 2⟩ [] (by kernel_rfl) trivial ?_
              exact ih b head ((r773_0.2.1.take r773_0.2.1.length).drop (r773_0.1.getD 2 0).toNat) (out ++ [((IntKind.wrap .i64 (IntKind.wrap .u64 (tick + (r773_0.1.getD 0 0)))), ((IntKind.wrap .i64 (IntKind.wrap .u64 (Int.tdiv (r773_0.1.getD 1 0) 128))), ((IntKind.wrap .i64 (Int.tmod (r773_0.1.getD 1 0) 128)), (strOfNums (r773_0.2.1.take (r773_0.1.getD 2 0).toNat)))))]) (IntKind.wrap .u64 (tick + (r773_0.1.getD 0 0))) (IntKind.wrap .u64 (i + 1)) w h o hk
    · refine At.step hm ht ⟨[], [false], [], [0, 7], [1]⟩ 17 ⟨[(0, .one (.c (.d (.sl (.int .u8) b)))), (7, .one (.c (.own 0 (.pair (.int .i64) (.pair (.int .i64) (.pair (.int .i64) .str))) out)))], [(0, some ⟨84, 0⟩)], [], 1⟩ [(0 : Int) ≤ 1 ∧ 1 < (((head).length : Nat) : Int), (decide ((i : Int) < (head.getD 1 0))) = false] (by kernel_rfl) ⟨g772_0, b772_e0, trivial⟩ ?_
      have h := Option.some.inj h
      subst h
      exact hk
def f29_broughamref34_Decode (n : Nat) (b : List Int) : Option ((List (Int × Int × Int × ByteArray)) × Bool) :=
  (f85_broughamref02_All n b [4, 2]).bind fun r766_0 =>
  if (!r766_0.2.2) = true then
    some ([], false)
  else
    (f29_broughamref34_Decode_L7 n b r766_0.1 r766_0.2.1 [] 0 0).bind fun w784 =>
    match w784 with
    | .inl e785 =>
      some (e785.1, e785.2)
    | .inr e786 =>
      (f21_broughamref34_Encode n e786.2).bind fun r787_0 =>
      if (!r787_0.2) = true then
        some ([], false)
      else
        if (!((strOfNums r787_0.1).toList == (strOfNums e786.1).toList)) = true then
          some ([], false)
        else
          some (e786.2, true)
theorem f29_broughamref34_Decode_ok (n : Nat) (b : List Int) (r : (List (Int × Int × Int × ByteArray)) × Bool) (h : f29_broughamref34_Decode n b = some r) : FnOK Go.Proofs.Try.prog 29 (f29_broughamref34_Decode_in b) (f29_broughamref34_Decode_out r) := by
  unfold f29_broughamref34_Decode at h
  refine At.fn (r := 0) Go.Proofs.Try.func29 rfl (by kernel_rfl) rfl rfl (by kernel_rfl) ?_
  show At Go.Proofs.Try.prog Go.Proofs.Try.f29 0 0 ⟨[(0, .one (.c (.d (.sl (.int .u8) b))))], [], [], 0⟩ _
  refine At.step hm ht ⟨[], [], [], [0], []⟩ 1 ⟨[(0, .one (.c (.d (.sl (.int .u8) b))))], [], [], 0⟩ [] (by kernel_rfl) trivial ?_
  obtain ⟨r766_0, cr766_0, h⟩ := bindS h
  refine At.step hm ht ⟨[(2, .call [] [] (f85_broughamref02_All_out r766_0))], [], [], [0, 4, 5, 6], [2]⟩ 2 ⟨[(0, .one (.c (.d (.sl (.int .u8) b)))), (4, .one (.c (.own 0 (.int .u64) r766_0.1))), (5, .one (.c (.d (.sl (.int .u8) r766_0.2.1)))), (6, .one (.c (.d (.bool r766_0.2.2))))], [(0, some ⟨22, 0⟩)], [], 1⟩ [FnOK Go.Proofs.Try.prog 85 (f85_broughamref02_All_in b [4, 2]) (f85_broughamref02_All_out r766_0)] (by kernel_rfl) ⟨(f85_broughamref02_All_ok n b [4, 2] r766_0 cr766_0), trivial⟩ ?_
  rcases iteS h with ⟨b767_e0, h⟩ | ⟨b767_e0, h⟩
  · refine At.step hm ht ⟨[], [true], [], [], []⟩ 3 ⟨[], [], [], 0⟩ [(!r766_0.2.2) = true] (by kernel_rfl) ⟨b767_e0, trivial⟩ ?_
    have h := Option.some.inj h
    subst h
    exact At.fin hm ht ⟨[], [], [.nil false 2 0 (.pair (.int .i64) (.pair (.int .i64) (.pair (.int .i64) .str))) (some 84)], [2, 3], [2]⟩ [] (by kernel_rfl) trivial
  · refine At.step hm ht ⟨[], [false], [], [0, 4, 5], [0]⟩ 4 ⟨[(0, .one (.c (.d (.sl (.int .u8) b)))), (4, .one (.c (.own 0 (.int .u64) r766_0.1))), (5, .one (.c (.d (.sl (.int .u8) r766_0.2.1))))], [(0, some ⟨22, 0⟩)], [], 1⟩ [(!r766_0.2.2) = false] (by kernel_rfl) ⟨b767_e0, trivial⟩ ?_
    refine At.step hm ht ⟨[], [], [], [0, 4, 5, 7], [0]⟩ 5 ⟨[(0, .one (.c (.d (.sl (.int .u8) b)))), (4, .one (.c (.own 0 (.int .u64) r766_0.1))), (5, .one (.c (.d (.sl (.int .u8) r766_0.2.1)))), (7, .one (.c (.d (.sl .unit []))))], [(0, some ⟨22, 0⟩)], [], 1⟩ [] (by kernel_rfl) trivial ?_
    refine At.step hm ht ⟨[], [], [], [0, 4, 5, 7, 8], [0]⟩ 6 ⟨[(0, .one (.c (.d (.sl (.int .u8) b)))), (4, .one (.c (.own 0 (.int .u64) r766_0.1))), (5, .one (.c (.d (.sl (.int .u8) r766_0.2.1)))), (7, .one (.c (.d (.sl .unit [])))), (8, .one (.c (.d (.int .u64 0))))], [(0, some ⟨22, 0⟩)], [], 1⟩ [] (by kernel_rfl) trivial ?_
    refine At.step hm ht ⟨[], [], [.nil false 7 0 (.pair (.int .i64) (.pair (.int .i64) (.pair (.int .i64) .str))) (some 84)], [0, 4, 5, 7, 8, 9], [0, 2]⟩ 7 ⟨[(0, .one (.c (.d (.sl (.int .u8) b)))), (4, .one (.c (.own 0 (.int .u64) r766_0.1))), (5, .one (.c (.d (.sl (.int .u8) r766_0.2.1)))), (7, .one (.c (.own 1 (.pair (.int .i64) (.pair (.int .i64) (.pair (.int .i64) .str))) []))), (8, .one (.c (.d (.int .u64 0)))), (9, .one (.c (.d (.int .u64 0))))], [(0, some ⟨22, 0⟩), (1, some ⟨84, 0⟩)], [], 2⟩ [] (by kernel_rfl) trivial ?_
    obtain ⟨w784, cw784, h⟩ := bindS h
    refine f29_broughamref34_Decode_L7_ok n b r766_0.1 r766_0.2.1 [] 0 0 w784 cw784 _ ?_
    rcases w784 with e785 | e786
    · have h := Option.some.inj h
      subst h
      rfl
    · show At Go.Proofs.Try.prog Go.Proofs.Try.f29 0 17 ⟨[(0, .one (.c (.d (.sl (.int .u8) e786.1)))), (7, .one (.c (.own 0 (.pair (.int .i64) (.pair (.int .i64) (.pair (.int .i64) .str))) e786.2)))], [(0, some ⟨84, 0⟩)], [], 1⟩ _
      obtain ⟨r787_0, cr787_0, h⟩ := bindS h
      refine At.step hm ht ⟨[(1, .call [] [] (f21_broughamref34_Encode_out r787_0))], [], [], [0, 7, 13, 14], [0, 2]⟩ 18 ⟨[(0, .one (.c (.d (.sl (.int .u8) e786.1)))), (7, .one (.c (.own 0 (.pair (.int .i64) (.pair (.int .i64) (.pair (.int .i64) .str))) e786.2))), (13, .one (.c (.own 1 (.int .u8) r787_0.1))), (14, .one (.c (.d (.bool r787_0.2))))], [(0, some ⟨84, 0⟩), (1, some ⟨5, 0⟩)], [], 2⟩ [FnOK Go.Proofs.Try.prog 21 (f21_broughamref34_Encode_in e786.2) (f21_broughamref34_Encode_out r787_0)] (by kernel_rfl) ⟨(f21_broughamref34_Encode_ok n e786.2 r787_0 cr787_0), trivial⟩ ?_
      rcases iteS h with ⟨b788_2, h⟩ | ⟨b788_2, h⟩
      · refine At.step hm ht ⟨[(2, .b true)], [true], [], [], []⟩ 19 ⟨[], [], [], 0⟩ [(!r787_0.2) = true, true = true] (by kernel_rfl) ⟨b788_2, rfl, trivial⟩ ?_
        have h := Option.some.inj h
        subst h
        exact At.fin hm ht ⟨[], [], [.nil false 2 0 (.pair (.int .i64) (.pair (.int .i64) (.pair (.int .i64) .str))) (some 84)], [2, 3], [2]⟩ [] (by kernel_rfl) trivial
      · rcases iteS h with ⟨b788_e0, h⟩ | ⟨b788_e0, h⟩
        · refine At.step hm ht ⟨[(2, .b false)], [true], [], [], []⟩ 19 ⟨[], [], [], 0⟩ [(!r787_0.2) = false, (!((strOfNums r787_0.1).toList == (strOfNums e786.1).toList)) = true] (by kernel_rfl) ⟨b788_2, b788_e0, trivial⟩ ?_
          have h := Option.some.inj h
          subst h
          exact At.fin hm ht ⟨[], [], [.nil false 2 0 (.pair (.int .i64) (.pair (.int .i64) (.pair (.int .i64) .str))) (some 84)], [2, 3], [2]⟩ [] (by kernel_rfl) trivial
        · refine At.step hm ht ⟨[(2, .b false)], [false], [], [7], [0]⟩ 20 ⟨[(7, .one (.c (.own 0 (.pair (.int .i64) (.pair (.int .i64) (.pair (.int .i64) .str))) e786.2)))], [(0, some ⟨84, 0⟩)], [], 1⟩ [(!r787_0.2) = false, (!((strOfNums r787_0.1).toList == (strOfNums e786.1).toList)) = false] (by kernel_rfl) ⟨b788_2, b788_e0, trivial⟩ ?_
          have h := Option.some.inj h
          subst h
          exact At.fin hm ht ⟨[], [], [], [2, 3], [0]⟩ [] (by kernel_rfl) trivial
/-! brougham/broughamlaw34.CaptureReads -/
def f5_broughamlaw34_CaptureReads_in (b : List Int) : Inn := ⟨[.c (.d (.sl (.int .u8) b))], [], [], 0⟩
def f5_broughamlaw34_CaptureReads_out (r : Bool) : Out := ⟨.one (.c (.d (.bool r))), [], [], 0⟩
def f5_broughamlaw34_CaptureReads (n : Nat) (b : List Int) : Option (Bool) :=
  if (decide ((((b.length : Nat) : Int) : Int) > 5000)) = true then
    some true
  else
    (f28_capture_Decode n b).bind fun r653_0 =>
    (f29_broughamref34_Decode n b).bind fun r654_0 =>
    if (r653_0.2 == r654_0.2) = true then
      (f22_broughamlaw34_plain n r653_0.1).bind fun r792_0 =>
      (f30_broughamlaw34_same n r792_0 r654_0.1).bind fun r792_1 =>
      if r792_1 = true then
        (f27_broughamlaw34_alive n).bind fun r792_2 =>
        some r792_2
      else
        some false
    else
      some false
theorem f5_broughamlaw34_CaptureReads_ok (n : Nat) (b : List Int) (r : Bool) (h : f5_broughamlaw34_CaptureReads n b = some r) : FnOK Go.Proofs.Try.prog 5 (f5_broughamlaw34_CaptureReads_in b) (f5_broughamlaw34_CaptureReads_out r) := by
  unfold f5_broughamlaw34_CaptureReads at h
  refine At.fn (r := 0) Go.Proofs.Try.func5 rfl (by kernel_rfl) rfl rfl (by kernel_rfl) ?_
  show At Go.Proofs.Try.prog Go.Proofs.Try.f5 0 0 ⟨[(0, .one (.c (.d (.sl (.int .u8) b))))], [], [], 0⟩ _
  refine At.step hm ht ⟨[], [], [], [0], []⟩ 1 ⟨[(0, .one (.c (.d (.sl (.int .u8) b))))], [], [], 0⟩ [] (by kernel_rfl) trivial ?_
  rcases iteS h with ⟨b651_e0, h⟩ | ⟨b651_e0, h⟩
  · refine At.step hm ht ⟨[], [true], [], [], []⟩ 2 ⟨[], [], [], 0⟩ [(decide ((((b.length : Nat) : Int) : Int) > 5000)) = true] (by kernel_rfl) ⟨b651_e0, trivial⟩ ?_
    have h := Option.some.inj h
    subst h
    exact At.fin hm ht ⟨[], [], [], [2], []⟩ [] (by kernel_rfl) trivial
  · refine At.step hm ht ⟨[], [false], [], [0], []⟩ 3 ⟨[(0, .one (.c (.d (.sl (.int .u8) b))))], [], [], 0⟩ [(decide ((((b.length : Nat) : Int) : Int) > 5000)) = false] (by kernel_rfl) ⟨b651_e0, trivial⟩ ?_
    obtain ⟨r653_0, cr653_0, h⟩ := bindS h
    refine At.step hm ht ⟨[(1, .call [] [] (f28_capture_Decode_out r653_0))], [], [], [0, 3, 4], [1]⟩ 4 ⟨[(0, .one (.c (.d (.sl (.int .u8) b)))), (3, .one (.c (.own 0 (.pair (.int .i64) (.pair (.int .i64) (.pair (.int .i64) (.slice (.int .u8))))) r653_0.1))), (4, .one (.c (.d (.bool r653_0.2))))], [(0, some ⟨82, 0⟩)], [], 1⟩ [FnOK Go.Proofs.Try.prog 28 (f28_capture_Decode_in b) (f28_capture_Decode_out r653_0)] (by kernel_rfl) ⟨(f28_capture_Decode_ok n b r653_0 cr653_0), trivial⟩ ?_
    obtain ⟨r654_0, cr654_0, h⟩ := bindS h
    refine At.step hm ht ⟨[(1, .call [] [] (f29_broughamref34_Decode_out r654_0))], [], [], [3, 4, 5, 6], [0, 2]⟩ 5 ⟨[(3, .one (.c (.own 0 (.pair (.int .i64) (.pair (.int .i64) (.pair (.int .i64) (.slice (.int .u8))))) r653_0.1))), (4, .one (.c (.d (.bool r653_0.2)))), (5, .one (.c (.own 1 (.pair (.int .i64) (.pair (.int .i64) (.pair (.int .i64) .str))) r654_0.1))), (6, .one (.c (.d (.bool r654_0.2))))], [(0, some ⟨82, 0⟩), (1, some ⟨84, 0⟩)], [], 2⟩ [FnOK Go.Proofs.Try.prog 29 (f29_broughamref34_Decode_in b) (f29_broughamref34_Decode_out r654_0)] (by kernel_rfl) ⟨(f29_broughamref34_Decode_ok n b r654_0 cr654_0), trivial⟩ ?_
    rcases iteS h with ⟨b792_3, h⟩ | ⟨b792_3, h⟩
    · obtain ⟨r792_0, cr792_0, h⟩ := bindS h
      obtain ⟨r792_1, cr792_1, h⟩ := bindS h
      rcases iteS h with ⟨b792_9, h⟩ | ⟨b792_9, h⟩
      · obtain ⟨r792_2, cr792_2, h⟩ := bindS h
        have h := Option.some.inj h
        subst h
        exact At.fin hm ht ⟨[(3, .b true), (5, .call [] [] (f22_broughamlaw34_plain_out r792_0)), (7, .call [] [] (f30_broughamlaw34_same_out r792_1)), (9, .b true), (10, .call [] [] (f27_broughamlaw34_alive_out r792_2))], [], [], [2], []⟩ [(r653_0.2 == r654_0.2) = true, FnOK Go.Proofs.Try.prog 22 (f22_broughamlaw34_plain_in r653_0.1) (f22_broughamlaw34_plain_out r792_0), FnOK Go.Proofs.Try.prog 30 (f30_broughamlaw34_same_in r792_0 r654_0.1) (f30_broughamlaw34_same_out r792_1), r792_1 = true, FnOK Go.Proofs.Try.prog 27 (f27_broughamlaw34_alive_in) (f27_broughamlaw34_alive_out r792_2)] (by kernel_rfl) ⟨b792_3, (f22_broughamlaw34_plain_ok n r653_0.1 r792_0 cr792_0), (f30_broughamlaw34_same_ok n r792_0 r654_0.1 r792_1 cr792_1), b792_9, (f27_broughamlaw34_alive_ok n r792_2 cr792_2), trivial⟩
      · have h := Option.some.inj h
        subst h
        exact At.fin hm ht ⟨[(3, .b true), (5, .call [] [] (f22_broughamlaw34_plain_out r792_0)), (7, .call [] [] (f30_broughamlaw34_same_out r792_1)), (9, .b false)], [], [], [2], []⟩ [(r653_0.2 == r654_0.2) = true, FnOK Go.Proofs.Try.prog 22 (f22_broughamlaw34_plain_in r653_0.1) (f22_broughamlaw34_plain_out r792_0), FnOK Go.Proofs.Try.prog 30 (f30_broughamlaw34_same_in r792_0 r654_0.1) (f30_broughamlaw34_same_out r792_1), r792_1 = false] (by kernel_rfl) ⟨b792_3, (f22_broughamlaw34_plain_ok n r653_0.1 r792_0 cr792_0), (f30_broughamlaw34_same_ok n r792_0 r654_0.1 r792_1 cr792_1), b792_9, trivial⟩
    · have h := Option.some.inj h
      subst h
      exact At.fin hm ht ⟨[(3, .b false)], [], [], [2], []⟩ [(r653_0.2 == r654_0.2) = false] (by kernel_rfl) ⟨b792_3, trivial⟩
end Go.Proofs.YtjoibacjpapncaaF34
