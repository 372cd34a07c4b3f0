/- What the functions compute, and that they do: printed by a program of this session (zgen.py), proved by Zed. -/
import Derived.Test.YtjoibacjpapncaaF26x0
namespace Go.Proofs.YtjoibacjpapncaaF26
open Go Zed Go.Proofs.YtjoibacjpapncaaLeaf
set_option maxRecDepth 100000
set_option linter.unusedVariables false
/-! brougham/seg.options -/
def f134_seg_options_in (b : List Int) : Inn := ⟨[.c (.d (.sl (.int .u8) b))], [], [], 0⟩
def f134_seg_options_out (r : (List (Int × List Int)) × Bool) : Out := ⟨.tup [.c (.own 0 (.pair (.int .u8) (.slice (.int .u8))) r.1), .c (.d (.bool r.2))], [(0, ⟨73, 0⟩)], [], 1⟩
def f134_seg_options_L2 : Nat → (List Int) → (List (Int × List Int)) → Option (((List (Int × List Int)) × Bool) ⊕ (List (Int × List Int)))
  | 0, _, _ => none
  | n + 1, b, out =>
    if (decide ((((b.length : Nat) : Int) : Int) > 0)) = true then
      if (decide ((((b.length : Nat) : Int) : Int) < 2)) = true then
        some (.inl ([], false))
      else
        if (0 : Int) ≤ 0 ∧ 0 < (((b).length : Nat) : Int) then
        if (((b.getD 0 0) : Int) == 0) = true then
          some (.inl ([], false))
        else
          if (0 : Int) ≤ 1 ∧ 1 < (((b).length : Nat) : Int) then
          if (decide (((IntKind.wrap .i64 (b.getD 1 0)) : Int) > (IntKind.wrap .i64 (((b.length : Nat) : Int) - 2)))) = true then
            some (.inl ([], false))
          else
            if (0 : Int) ≤ 1 ∧ 1 < (((b).length : Nat) : Int) then
            if (0 : Int) ≤ 0 ∧ 0 < (((b).length : Nat) : Int) then
            if cutOk b.length (some 2) (some (IntKind.wrap .i64 (2 + (IntKind.wrap .i64 (b.getD 1 0))))) none then
            if ((b.take (IntKind.wrap .i64 (2 + (IntKind.wrap .i64 (b.getD 1 0)))).toNat).drop 2).length ≤ maxLen ∧ ((b.take (IntKind.wrap .i64 (2 + (IntKind.wrap .i64 (b.getD 1 0)))).toNat).drop 2).length * 1 ≤ 140737488355328 then
            if out.length + [((b.getD 0 0), ((b.take (IntKind.wrap .i64 (2 + (IntKind.wrap .i64 (b.getD 1 0)))).toNat).drop 2))].length ≤ maxLen ∧ (out.length + [((b.getD 0 0), ((b.take (IntKind.wrap .i64 (2 + (IntKind.wrap .i64 (b.getD 1 0)))).toNat).drop 2))].length) * 32 ≤ 140737488355328 then
            if cutOk b.length (some (IntKind.wrap .i64 (2 + (IntKind.wrap .i64 (b.getD 1 0))))) none none then
            f134_seg_options_L2 n ((b.take b.length).drop (IntKind.wrap .i64 (2 + (IntKind.wrap .i64 (b.getD 1 0)))).toNat) (out ++ [((b.getD 0 0), ((b.take (IntKind.wrap .i64 (2 + (IntKind.wrap .i64 (b.getD 1 0)))).toNat).drop 2))])
            else none
            else none
            else none
            else none
            else none
            else none
          else none
        else none
    else
      some (.inr out)
def f134_seg_options_L2_k (w : ((List (Int × List Int)) × Bool) ⊕ (List (Int × List Int))) (o : Out) : Prop := match w with
  | .inl e => o = f134_seg_options_out e
  | .inr e => At Go.Proofs.Try.prog Go.Proofs.Try.f134 0 8 ⟨[(4, .one (.c (.own 0 (.pair (.int .u8) (.slice (.int .u8))) e)))], [(0, some ⟨73, 0⟩)], [], 1⟩ o
theorem f134_seg_options_L2_ok (n : Nat) : ∀ (b : List Int) (out : List (Int × List Int)) (w : ((List (Int × List Int)) × Bool) ⊕ (List (Int × List Int))) (h : f134_seg_options_L2 n b out = some w) (o : Out) (hk : f134_seg_options_L2_k w o), At Go.Proofs.Try.prog Go.Proofs.Try.f134 0 2 ⟨[(0, .one (.c (.d (.sl (.int .u8) b)))), (4, .one (.c (.own 0 (.pair (.int .u8) (.slice (.int .u8))) out)))], [(0, some ⟨73, 0⟩)], [], 1⟩ o := by
  induction n with
  | zero => intro b out w h; rw [f134_seg_options_L2] at h; cases h
  | succ n ih =>
    intro b out w h o hk
    rw [f134_seg_options_L2] at h
    rcases iteS h with ⟨b470_e0, h⟩ | ⟨b470_e0, h⟩
    · refine At.step hm ht ⟨[], [true], [], [0, 4], [0]⟩ 3 ⟨[(0, .one (.c (.d (.sl (.int .u8) b)))), (4, .one (.c (.own 0 (.pair (.int .u8) (.slice (.int .u8))) out)))], [(0, some ⟨73, 0⟩)], [], 1⟩ [(decide ((((b.length : Nat) : Int) : Int) > 0)) = true] (by kernel_rfl) ⟨b470_e0, trivial⟩ ?_
      rcases iteS h with ⟨b471_3, h⟩ | ⟨b471_3, h⟩
      · refine At.step hm ht ⟨[(3, .b true)], [true], [], [], []⟩ 4 ⟨[], [], [], 0⟩ [(decide ((((b.length : Nat) : Int) : Int) < 2)) = true, true = true] (by kernel_rfl) ⟨b471_3, rfl, trivial⟩ ?_
        have h := Option.some.inj h
        subst h
        have hk : o = f134_seg_options_out ([], false) := hk
        subst hk
        exact At.fin hm ht ⟨[], [], [.nil false 2 0 (.pair (.int .u8) (.slice (.int .u8))) (some 73)], [2, 3], [2]⟩ [] (by kernel_rfl) trivial
      · obtain ⟨g471_0, h⟩ := ifS h
        rcases iteS h with ⟨b471_9, h⟩ | ⟨b471_9, h⟩
        · refine At.step hm ht ⟨[(3, .b false), (9, .b true)], [true], [], [], []⟩ 4 ⟨[], [], [], 0⟩ [(decide ((((b.length : Nat) : Int) : Int) < 2)) = false, (0 : Int) ≤ 0 ∧ 0 < (((b).length : Nat) : Int), (((b.getD 0 0) : Int) == 0) = true, true = true] (by kernel_rfl) ⟨b471_3, g471_0, b471_9, rfl, trivial⟩ ?_
          have h := Option.some.inj h
          subst h
          have hk : o = f134_seg_options_out ([], false) := hk
          subst hk
          exact At.fin hm ht ⟨[], [], [.nil false 2 0 (.pair (.int .u8) (.slice (.int .u8))) (some 73)], [2, 3], [2]⟩ [] (by kernel_rfl) trivial
        · obtain ⟨g471_1, h⟩ := ifS h
          rcases iteS h with ⟨b471_e0, h⟩ | ⟨b471_e0, h⟩
          · refine At.step hm ht ⟨[(3, .b false), (9, .b false)], [true], [], [], []⟩ 4 ⟨[], [], [], 0⟩ [(decide ((((b.length : Nat) : Int) : Int) < 2)) = false, (0 : Int) ≤ 0 ∧ 0 < (((b).length : Nat) : Int), (((b.getD 0 0) : Int) == 0) = false, (0 : Int) ≤ 1 ∧ 1 < (((b).length : Nat) : Int), (decide (((IntKind.wrap .i64 (b.getD 1 0)) : Int) > (IntKind.wrap .i64 (((b.length : Nat) : Int) - 2)))) = true] (by kernel_rfl) ⟨b471_3, g471_0, b471_9, g471_1, b471_e0, trivial⟩ ?_
            have h := Option.some.inj h
            subst h
            have hk : o = f134_seg_options_out ([], false) := hk
            subst hk
            exact At.fin hm ht ⟨[], [], [.nil false 2 0 (.pair (.int .u8) (.slice (.int .u8))) (some 73)], [2, 3], [2]⟩ [] (by kernel_rfl) trivial
          · refine At.step hm ht ⟨[(3, .b false), (9, .b false)], [false], [], [0, 4], [0]⟩ 5 ⟨[(0, .one (.c (.d (.sl (.int .u8) b)))), (4, .one (.c (.own 0 (.pair (.int .u8) (.slice (.int .u8))) out)))], [(0, some ⟨73, 0⟩)], [], 1⟩ [(decide ((((b.length : Nat) : Int) : Int) < 2)) = false, (0 : Int) ≤ 0 ∧ 0 < (((b).length : Nat) : Int), (((b.getD 0 0) : Int) == 0) = false, (0 : Int) ≤ 1 ∧ 1 < (((b).length : Nat) : Int), (decide (((IntKind.wrap .i64 (b.getD 1 0)) : Int) > (IntKind.wrap .i64 (((b.length : Nat) : Int) - 2)))) = false] (by kernel_rfl) ⟨b471_3, g471_0, b471_9, g471_1, b471_e0, trivial⟩ ?_
            obtain ⟨g475_0, h⟩ := ifS h
            refine At.step hm ht ⟨[], [], [], [0, 4, 5], [0]⟩ 6 ⟨[(0, .one (.c (.d (.sl (.int .u8) b)))), (4, .one (.c (.own 0 (.pair (.int .u8) (.slice (.int .u8))) out))), (5, .one (.c (.d (.int .i64 (IntKind.wrap .i64 (2 + (IntKind.wrap .i64 (b.getD 1 0))))))))], [(0, some ⟨73, 0⟩)], [], 1⟩ [(0 : Int) ≤ 1 ∧ 1 < (((b).length : Nat) : Int)] (by kernel_rfl) ⟨g475_0, trivial⟩ ?_
            obtain ⟨g476_0, h⟩ := ifS h
            obtain ⟨g476_1, h⟩ := ifS h
            obtain ⟨g476_2, h⟩ := ifS h
            obtain ⟨g476_3, h⟩ := ifS h
            refine At.step hm ht ⟨[], [], [], [0, 4, 5], [11]⟩ 7 ⟨[(0, .one (.c (.d (.sl (.int .u8) b)))), (4, .one (.c (.own 0 (.pair (.int .u8) (.slice (.int .u8))) (out ++ [((b.getD 0 0), ((b.take (IntKind.wrap .i64 (2 + (IntKind.wrap .i64 (b.getD 1 0)))).toNat).drop 2))])))), (5, .one (.c (.d (.int .i64 (IntKind.wrap .i64 (2 + (IntKind.wrap .i64 (b.getD 1 0))))))))], [(0, some ⟨73, 0⟩)], [], 1⟩ [(0 : Int) ≤ 0 ∧ 0 < (((b).length : Nat) : Int), cutOk b.length (some 2) (some (IntKind.wrap .i64 (2 + (IntKind.wrap .i64 (b.getD 1 0))))) none, ((b.take (IntKind.wrap .i64 (2 + (IntKind.wrap .i64 (b.getD 1 0)))).toNat).drop 2).length ≤ maxLen ∧ ((b.take (IntKind.wrap .i64 (2 + (IntKind.wrap .i64 (b.getD 1 0)))).toNat).drop 2).length * 1 ≤ 140737488355328, out.length + [((b.getD 0 0), ((b.take (IntKind.wrap .i64 (2 + (IntKind.wrap .i64 (b.getD 1 0)))).toNat).drop 2))].length ≤ maxLen ∧ (out.length + [((b.getD 0 0), ((b.take (IntKind.wrap .i64 (2 + (IntKind.wrap .i64 (b.getD 1 0)))).toNat).drop 2))].length) * 32 ≤ 140737488355328] (by kernel_rfl) ⟨g476_0, g476_1, g476_2, g476_3, trivial⟩ ?_
            obtain ⟨g477_0, h⟩ := ifS h
            refine At.step hm ht ⟨[], [], [], [0, 4], [0]⟩ 2 ⟨[(0, .one (.c (.d (.sl (.int .u8) ((b.take b.length).drop (IntKind.wrap .i64 (2 + (IntKind.wrap .i64 (b.getD 1 0)))).toNat))))), (4, .one (.c (.own 0 (.pair (.int .u8) (.slice (.int .u8))) (out ++ [((b.getD 0 0), ((b.take (IntKind.wrap .i64 (2 + (IntKind.wrap .i64 (b.getD 1 0)))).toNat).drop 2))]))))], [(0, some ⟨73, 0⟩)], [], 1⟩ [cutOk b.length (some (IntKind.wrap .i64 (2 + (IntKind.wrap .i64 (b.getD 1 0))))) none none] (by kernel_rfl) ⟨g477_0, trivial⟩ ?_
            exact ih ((b.take b.length).drop (IntKind.wrap .i64 (2 + (IntKind.wrap .i64 (b.getD 1 0)))).toNat) (out ++ [((b.getD 0 0), ((b.take (IntKind.wrap .i64 (2 + (IntKind.wrap .i64 (b.getD 1 0)))).toNat).drop 2))]) w h o hk
    · refine At.step hm ht ⟨[], [false], [], [4], [0]⟩ 8 ⟨[(4, .one (.c (.own 0 (.pair (.int .u8) (.slice (.int .u8))) out)))], [(0, some ⟨73, 0⟩)], [], 1⟩ [(decide ((((b.length : Nat) : Int) : Int) > 0)) = false] (by kernel_rfl) ⟨b470_e0, trivial⟩ ?_
      have h := Option.some.inj h
      subst h
      exact hk
def f134_seg_options (n : Nat) (b : List Int) : Option ((List (Int × List Int)) × Bool) :=
  (f134_seg_options_L2 n b []).bind fun w478 =>
  match w478 with
  | .inl e479 =>
    some (e479.1, e479.2)
  | .inr e480 =>
    some (e480, true)
theorem f134_seg_options_ok (n : Nat) (b : List Int) (r : (List (Int × List Int)) × Bool) (h : f134_seg_options n b = some r) : FnOK Go.Proofs.Try.prog 134 (f134_seg_options_in b) (f134_seg_options_out r) := by
  unfold f134_seg_options at h
  refine At.fn (r := 0) Go.Proofs.Try.func134 rfl (by kernel_rfl) rfl rfl (by kernel_rfl) ?_
  show At Go.Proofs.Try.prog Go.Proofs.Try.f134 0 0 ⟨[(0, .one (.c (.d (.sl (.int .u8) b))))], [], [], 0⟩ _
  refine At.step hm ht ⟨[], [], [], [0], []⟩ 1 ⟨[(0, .one (.c (.d (.sl (.int .u8) b))))], [], [], 0⟩ [] (by kernel_rfl) trivial ?_
  refine At.step hm ht ⟨[], [], [.nil false 4 0 (.pair (.int .u8) (.slice (.int .u8))) (some 73)], [0, 4], [1]⟩ 2 ⟨[(0, .one (.c (.d (.sl (.int .u8) b)))), (4, .one (.c (.own 0 (.pair (.int .u8) (.slice (.int .u8))) [])))], [(0, some ⟨73, 0⟩)], [], 1⟩ [] (by kernel_rfl) trivial ?_
  obtain ⟨w478, cw478, h⟩ := bindS h
  refine f134_seg_options_L2_ok n b [] w478 cw478 _ ?_
  rcases w478 with e479 | e480
  · have h := Option.some.inj h
    subst h
    rfl
  · show At Go.Proofs.Try.prog Go.Proofs.Try.f134 0 8 ⟨[(4, .one (.c (.own 0 (.pair (.int .u8) (.slice (.int .u8))) e480)))], [(0, some ⟨73, 0⟩)], [], 1⟩ _
    have h := Option.some.inj h
    subst h
    exact At.fin hm ht ⟨[], [], [], [2, 3], [0]⟩ [] (by kernel_rfl) trivial
/-! brougham/seg.Parse -/
def f123_seg_Parse_in (b : List Int) : Inn := ⟨[.c (.d (.sl (.int .u8) b))], [], [], 0⟩
def f123_seg_Parse_out (r : Int × Int × Int × Int × Int × Int × (List (Int × List Int)) × List Int) : Out := ⟨.tup [.agg [.d (.int .u16 r.2.1), .d (.int .u16 r.2.2.1), .d (.int .u32 r.2.2.2.1), .d (.int .u32 r.2.2.2.2.1), .d (.int .u8 r.2.2.2.2.2.1), .own 1 (.pair (.int .u8) (.slice (.int .u8))) r.2.2.2.2.2.2.1, .own 2 (.int .u8) r.2.2.2.2.2.2.2], .c (.d (.int .i64 r.1))], [(1, ⟨73, 0⟩), (2, ⟨5, 0⟩)], [(0, [.d (.int .u16 r.2.1), .d (.int .u16 r.2.2.1), .d (.int .u32 r.2.2.2.1), .d (.int .u32 r.2.2.2.2.1), .d (.int .u8 r.2.2.2.2.2.1), .own 1 (.pair (.int .u8) (.slice (.int .u8))) r.2.2.2.2.2.2.1, .own 2 (.int .u8) r.2.2.2.2.2.2.2])], 3⟩
def f123_seg_Parse (n : Nat) (b : List Int) : Option (Int × Int × Int × Int × Int × Int × (List (Int × List Int)) × List Int) :=
  (f84_pack_Get n b [2, 2, 4, 4, 1, 1]).bind fun r489_0 =>
  if (!r489_0.2.2) = true then
    some (70, 0, 0, 0, 0, 0, [], [])
  else
    if (0 : Int) ≤ 4 ∧ 4 < (((r489_0.1).length : Nat) : Int) then
    if (decide (((r489_0.1.getD 4 0) : Int) > 7)) = true then
      some (70, 0, 0, 0, 0, 0, [], [])
    else
      if (0 : Int) ≤ 0 ∧ 0 < (((r489_0.1).length : Nat) : Int) then
      if (0 : Int) ≤ 1 ∧ 1 < (((r489_0.1).length : Nat) : Int) then
      if (0 : Int) ≤ 2 ∧ 2 < (((r489_0.1).length : Nat) : Int) then
      if (0 : Int) ≤ 3 ∧ 3 < (((r489_0.1).length : Nat) : Int) then
      if (0 : Int) ≤ 4 ∧ 4 < (((r489_0.1).length : Nat) : Int) then
      if (0 : Int) ≤ 5 ∧ 5 < (((r489_0.1).length : Nat) : Int) then
      if (decide (((IntKind.wrap .i64 (r489_0.1.getD 5 0)) : Int) > 200)) = true then
        some (71, 0, 0, 0, 0, 0, [], [])
      else
        if (decide (((IntKind.wrap .i64 (r489_0.1.getD 5 0)) : Int) > ((r489_0.2.1.length : Nat) : Int))) = true then
          some (71, 0, 0, 0, 0, 0, [], [])
        else
          if cutOk r489_0.2.1.length none (some (IntKind.wrap .i64 (r489_0.1.getD 5 0))) (some (IntKind.wrap .i64 (r489_0.1.getD 5 0))) then
          (f134_seg_options n (r489_0.2.1.take (IntKind.wrap .i64 (r489_0.1.getD 5 0)).toNat)).bind fun r498_1 =>
          if (!r498_1.2) = true then
            some (71, 0, 0, 0, 0, 0, [], [])
          else
            if (decide (((IntKind.wrap .i64 (((r489_0.2.1.length : Nat) : Int) - (IntKind.wrap .i64 (r489_0.1.getD 5 0)))) : Int) > 1024)) = true then
              some (72, 0, 0, 0, 0, 0, [], [])
            else
              if cutOk r489_0.2.1.length (some (IntKind.wrap .i64 (r489_0.1.getD 5 0))) none none then
              if ((r489_0.2.1.take r489_0.2.1.length).drop (IntKind.wrap .i64 (r489_0.1.getD 5 0)).toNat).length ≤ maxLen ∧ ((r489_0.2.1.take r489_0.2.1.length).drop (IntKind.wrap .i64 (r489_0.1.getD 5 0)).toNat).length * 1 ≤ 140737488355328 then
              some (0, (IntKind.wrap .u16 (r489_0.1.getD 0 0)), (IntKind.wrap .u16 (r489_0.1.getD 1 0)), (IntKind.wrap .u32 (r489_0.1.getD 2 0)), (IntKind.wrap .u32 (r489_0.1.getD 3 0)), (IntKind.wrap .u8 (r489_0.1.getD 4 0)), r498_1.1, ((r489_0.2.1.take r489_0.2.1.length).drop (IntKind.wrap .i64 (r489_0.1.getD 5 0)).toNat))
              else none
              else none
          else none
      else none
      else none
      else none
      else none
      else none
      else none
    else none
theorem f123_seg_Parse_ok (n : Nat) (b : List Int) (r : Int × Int × Int × Int × Int × Int × (List (Int × List Int)) × List Int) (h : f123_seg_Parse n b = some r) : FnOK Go.Proofs.Try.prog 123 (f123_seg_Parse_in b) (f123_seg_Parse_out r) := by
  unfold f123_seg_Parse at h
  refine At.fn (r := 0) Go.Proofs.Try.func123 rfl (by kernel_rfl) rfl rfl (by kernel_rfl) ?_
  show At Go.Proofs.Try.prog Go.Proofs.Try.f123 0 0 ⟨[(0, .one (.c (.d (.sl (.int .u8) b))))], [], [], 0⟩ _
  refine At.step hm ht ⟨[], [], [], [0, 2], [0]⟩ 1 ⟨[(0, .one (.c (.d (.sl (.int .u8) b)))), (2, .one (.c (.ptr 0 0)))], [], [(0, [.d (.int .u16 0), .d (.int .u16 0), .d (.int .u32 0), .d (.int .u32 0), .d (.int .u8 0), .d (.sl .unit []), .d (.sl .unit [])])], 1⟩ [] (by kernel_rfl) trivial ?_
  obtain ⟨r489_0, cr489_0, h⟩ := bindS h
  refine At.step hm ht ⟨[(2, .call [] [] (f84_pack_Get_out r489_0))], [], [], [2, 4, 5, 6], [0, 3, 4]⟩ 2 ⟨[(2, .one (.c (.ptr 0 0))), (4, .one (.c (.own 1 (.int .u64) r489_0.1))), (5, .one (.c (.own 2 (.int .u8) r489_0.2.1))), (6, .one (.c (.d (.bool r489_0.2.2))))], [(1, some ⟨22, 0⟩), (2, some ⟨5, 0⟩)], [(0, [.d (.int .u16 0), .d (.int .u16 0), .d (.int .u32 0), .d (.int .u32 0), .d (.int .u8 0), .d (.sl .unit []), .d (.sl .unit [])])], 3⟩ [FnOK Go.Proofs.Try.prog 84 (f84_pack_Get_in b [2, 2, 4, 4, 1, 1]) (f84_pack_Get_out r489_0)] (by kernel_rfl) ⟨(f84_pack_Get_ok n b [2, 2, 4, 4, 1, 1] r489_0 cr489_0), trivial⟩ ?_
  rcases iteS h with ⟨b490_2, h⟩ | ⟨b490_2, h⟩
  · refine At.step hm ht ⟨[(2, .b true)], [true], [], [2], [0]⟩ 3 ⟨[(2, .one (.c (.ptr 0 0)))], [], [(0, [.d (.int .u16 0), .d (.int .u16 0), .d (.int .u32 0), .d (.int .u32 0), .d (.int .u8 0), .d (.sl .unit []), .d (.sl .unit [])])], 1⟩ [(!r489_0.2.2) = true, true = true] (by kernel_rfl) ⟨b490_2, rfl, trivial⟩ ?_
    have h := Option.some.inj h
    subst h
    exact At.fin hm ht ⟨[], [], [.nil true 0 5 (.pair (.int .u8) (.slice (.int .u8))) (some 73), .nil true 0 6 (.int .u8) (some 5)], [2, 3], [0, 4, 5]⟩ [0 + 7 ≤ 7] (by kernel_rfl) ⟨(by decide), trivial⟩
  · obtain ⟨g490_0, h⟩ := ifS h
    rcases iteS h with ⟨b490_e0, h⟩ | ⟨b490_e0, h⟩
    · refine At.step hm ht ⟨[(2, .b false)], [true], [], [2], [0]⟩ 3 ⟨[(2, .one (.c (.ptr 0 0)))], [], [(0, [.d (.int .u16 0), .d (.int .u16 0), .d (.int .u32 0), .d (.int .u32 0), .d (.int .u8 0), .d (.sl .unit []), .d (.sl .unit [])])], 1⟩ [(!r489_0.2.2) = false, (0 : Int) ≤ 4 ∧ 4 < (((r489_0.1).length : Nat) : Int), (decide (((r489_0.1.getD 4 0) : Int) > 7)) = true] (by kernel_rfl) ⟨b490_2, g490_0, b490_e0, trivial⟩ ?_
      have h := Option.some.inj h
      subst h
      exact At.fin hm ht ⟨[], [], [.nil true 0 5 (.pair (.int .u8) (.slice (.int .u8))) (some 73), .nil true 0 6 (.int .u8) (some 5)], [2, 3], [0, 4, 5]⟩ [0 + 7 ≤ 7] (by kernel_rfl) ⟨(by decide), trivial⟩
    · refine At.step hm ht ⟨[(2, .b false)], [false], [], [2, 4, 5], [0, 1, 2]⟩ 4 ⟨[(2, .one (.c (.ptr 0 0))), (4, .one (.c (.own 1 (.int .u64) r489_0.1))), (5, .one (.c (.own 2 (.int .u8) r489_0.2.1)))], [(1, some ⟨22, 0⟩), (2, some ⟨5, 0⟩)], [(0, [.d (.int .u16 0), .d (.int .u16 0), .d (.int .u32 0), .d (.int .u32 0), .d (.int .u8 0), .d (.sl .unit []), .d (.sl .unit [])])], 3⟩ [(!r489_0.2.2) = false, (0 : Int) ≤ 4 ∧ 4 < (((r489_0.1).length : Nat) : Int), (decide (((r489_0.1.getD 4 0) : Int) > 7)) = false] (by kernel_rfl) ⟨b490_2, g490_0, b490_e0, trivial⟩ ?_
      obtain ⟨g493_0, h⟩ := ifS h
      obtain ⟨g493_1, h⟩ := ifS h
      obtain ⟨g493_2, h⟩ := ifS h
      obtain ⟨g493_3, h⟩ := ifS h
      obtain ⟨g493_4, h⟩ := ifS h
      refine At.step hm ht ⟨[], [], [], [2, 4, 5, 7], [0, 1, 2, 24]⟩ 5 ⟨[(2, .one (.c (.ptr 0 0))), (4, .one (.c (.own 1 (.int .u64) r489_0.1))), (5, .one (.c (.own 2 (.int .u8) r489_0.2.1))), (7, .one (.c (.ptr 3 0)))], [(1, some ⟨22, 0⟩), (2, some ⟨5, 0⟩)], [(0, [.d (.int .u16 0), .d (.int .u16 0), .d (.int .u32 0), .d (.int .u32 0), .d (.int .u8 0), .d (.sl .unit []), .d (.sl .unit [])]), (3, [.d (.int .u16 (IntKind.wrap .u16 (r489_0.1.getD 0 0))), .d (.int .u16 (IntKind.wrap .u16 (r489_0.1.getD 1 0))), .d (.int .u32 (IntKind.wrap .u32 (r489_0.1.getD 2 0))), .d (.int .u32 (IntKind.wrap .u32 (r489_0.1.getD 3 0))), .d (.int .u8 (IntKind.wrap .u8 (r489_0.1.getD 4 0))), .d (.sl .unit []), .d (.sl .unit [])])], 4⟩ [(0 : Int) ≤ 0 ∧ 0 < (((r489_0.1).length : Nat) : Int), (0 : Int) ≤ 1 ∧ 1 < (((r489_0.1).length : Nat) : Int), (0 : Int) ≤ 2 ∧ 2 < (((r489_0.1).length : Nat) : Int), (0 : Int) ≤ 3 ∧ 3 < (((r489_0.1).length : Nat) : Int), (0 : Int) ≤ 4 ∧ 4 < (((r489_0.1).length : Nat) : Int), 0 + 7 ≤ 7] (by kernel_rfl) ⟨g493_0, g493_1, g493_2, g493_3, g493_4, (by decide), trivial⟩ ?_
      obtain ⟨g494_0, h⟩ := ifS h
      refine At.step hm ht ⟨[], [], [], [2, 5, 7, 8], [0, 2, 3]⟩ 6 ⟨[(2, .one (.c (.ptr 0 0))), (5, .one (.c (.own 1 (.int .u8) r489_0.2.1))), (7, .one (.c (.ptr 2 0))), (8, .one (.c (.d (.int .i64 (IntKind.wrap .i64 (r489_0.1.getD 5 0))))))], [(1, some ⟨5, 0⟩)], [(0, [.d (.int .u16 0), .d (.int .u16 0), .d (.int .u32 0), .d (.int .u32 0), .d (.int .u8 0), .d (.sl .unit []), .d (.sl .unit [])]), (2, [.d (.int .u16 (IntKind.wrap .u16 (r489_0.1.getD 0 0))), .d (.int .u16 (IntKind.wrap .u16 (r489_0.1.getD 1 0))), .d (.int .u32 (IntKind.wrap .u32 (r489_0.1.getD 2 0))), .d (.int .u32 (IntKind.wrap .u32 (r489_0.1.getD 3 0))), .d (.int .u8 (IntKind.wrap .u8 (r489_0.1.getD 4 0))), .d (.sl .unit []), .d (.sl .unit [])])], 3⟩ [(0 : Int) ≤ 5 ∧ 5 < (((r489_0.1).length : Nat) : Int)] (by kernel_rfl) ⟨g494_0, trivial⟩ ?_
      rcases iteS h with ⟨b495_2, h⟩ | ⟨b495_2, h⟩
      · refine At.step hm ht ⟨[(2, .b true)], [true], [], [2], [0]⟩ 7 ⟨[(2, .one (.c (.ptr 0 0)))], [], [(0, [.d (.int .u16 0), .d (.int .u16 0), .d (.int .u32 0), .d (.int .u32 0), .d (.int .u8 0), .d (.sl .unit []), .d (.sl .unit [])])], 1⟩ [(decide (((IntKind.wrap .i64 (r489_0.1.getD 5 0)) : Int) > 200)) = true, true = true] (by kernel_rfl) ⟨b495_2, rfl, trivial⟩ ?_
        have h := Option.some.inj h
        subst h
        exact At.fin hm ht ⟨[], [], [.nil true 0 5 (.pair (.int .u8) (.slice (.int .u8))) (some 73), .nil true 0 6 (.int .u8) (some 5)], [2, 3], [0, 4, 5]⟩ [0 + 7 ≤ 7] (by kernel_rfl) ⟨(by decide), trivial⟩
      · rcases iteS h with ⟨b495_e0, h⟩ | ⟨b495_e0, h⟩
        · refine At.step hm ht ⟨[(2, .b false)], [true], [], [2], [0]⟩ 7 ⟨[(2, .one (.c (.ptr 0 0)))], [], [(0, [.d (.int .u16 0), .d (.int .u16 0), .d (.int .u32 0), .d (.int .u32 0), .d (.int .u8 0), .d (.sl .unit []), .d (.sl .unit [])])], 1⟩ [(decide (((IntKind.wrap .i64 (r489_0.1.getD 5 0)) : Int) > 200)) = false, (decide (((IntKind.wrap .i64 (r489_0.1.getD 5 0)) : Int) > ((r489_0.2.1.length : Nat) : Int))) = true] (by kernel_rfl) ⟨b495_2, b495_e0, trivial⟩ ?_
          have h := Option.some.inj h
          subst h
          exact At.fin hm ht ⟨[], [], [.nil true 0 5 (.pair (.int .u8) (.slice (.int .u8))) (some 73), .nil true 0 6 (.int .u8) (some 5)], [2, 3], [0, 4, 5]⟩ [0 + 7 ≤ 7] (by kernel_rfl) ⟨(by decide), trivial⟩
        · refine At.step hm ht ⟨[(2, .b false)], [false], [], [2, 5, 7, 8], [0, 1, 2]⟩ 8 ⟨[(2, .one (.c (.ptr 0 0))), (5, .one (.c (.own 1 (.int .u8) r489_0.2.1))), (7, .one (.c (.ptr 2 0))), (8, .one (.c (.d (.int .i64 (IntKind.wrap .i64 (r489_0.1.getD 5 0))))))], [(1, some ⟨5, 0⟩)], [(0, [.d (.int .u16 0), .d (.int .u16 0), .d (.int .u32 0), .d (.int .u32 0), .d (.int .u8 0), .d (.sl .unit []), .d (.sl .unit [])]), (2, [.d (.int .u16 (IntKind.wrap .u16 (r489_0.1.getD 0 0))), .d (.int .u16 (IntKind.wrap .u16 (r489_0.1.getD 1 0))), .d (.int .u32 (IntKind.wrap .u32 (r489_0.1.getD 2 0))), .d (.int .u32 (IntKind.wrap .u32 (r489_0.1.getD 3 0))), .d (.int .u8 (IntKind.wrap .u8 (r489_0.1.getD 4 0))), .d (.sl .unit []), .d (.sl .unit [])])], 3⟩ [(decide (((IntKind.wrap .i64 (r489_0.1.getD 5 0)) : Int) > 200)) = false, (decide (((IntKind.wrap .i64 (r489_0.1.getD 5 0)) : Int) > ((r489_0.2.1.length : Nat) : Int))) = false] (by kernel_rfl) ⟨b495_2, b495_e0, trivial⟩ ?_
          obtain ⟨g498_0, h⟩ := ifS h
          obtain ⟨r498_1, cr498_1, h⟩ := bindS h
          refine At.step hm ht ⟨[(4, .call [] [] (f134_seg_options_out r498_1))], [], [], [2, 5, 6, 7, 8, 9], [0, 1, 2, 7]⟩ 9 ⟨[(2, .one (.c (.ptr 0 0))), (5, .one (.c (.own 1 (.int .u8) r489_0.2.1))), (6, .one (.c (.d (.bool r498_1.2)))), (7, .one (.c (.ptr 2 0))), (8, .one (.c (.d (.int .i64 (IntKind.wrap .i64 (r489_0.1.getD 5 0)))))), (9, .one (.c (.own 3 (.pair (.int .u8) (.slice (.int .u8))) r498_1.1)))], [(1, some ⟨5, 0⟩), (3, some ⟨73, 0⟩)], [(0, [.d (.int .u16 0), .d (.int .u16 0), .d (.int .u32 0), .d (.int .u32 0), .d (.int .u8 0), .d (.sl .unit []), .d (.sl .unit [])]), (2, [.d (.int .u16 (IntKind.wrap .u16 (r489_0.1.getD 0 0))), .d (.int .u16 (IntKind.wrap .u16 (r489_0.1.getD 1 0))), .d (.int .u32 (IntKind.wrap .u32 (r489_0.1.getD 2 0))), .d (.int .u32 (IntKind.wrap .u32 (r489_0.1.getD 3 0))), .d (.int .u8 (IntKind.wrap .u8 (r489_0.1.getD 4 0))), .d (.sl .unit []), .d (.sl .unit [])])], 4⟩ [cutOk r489_0.2.1.length none (some (IntKind.wrap .i64 (r489_0.1.getD 5 0))) (some (IntKind.wrap .i64 (r489_0.1.getD 5 0))), FnOK Go.Proofs.Try.prog 134 (f134_seg_options_in (r489_0.2.1.take (IntKind.wrap .i64 (r489_0.1.getD 5 0)).toNat)) (f134_seg_options_out r498_1)] (by kernel_rfl) ⟨g498_0, (f134_seg_options_ok n (r489_0.2.1.take (IntKind.wrap .i64 (r489_0.1.getD 5 0)).toNat) r498_1 cr498_1), trivial⟩ ?_
          rcases iteS h with ⟨b499_e0, h⟩ | ⟨b499_e0, h⟩
          · refine At.step hm ht ⟨[], [true], [], [2], [0]⟩ 10 ⟨[(2, .one (.c (.ptr 0 0)))], [], [(0, [.d (.int .u16 0), .d (.int .u16 0), .d (.int .u32 0), .d (.int .u32 0), .d (.int .u8 0), .d (.sl .unit []), .d (.sl .unit [])])], 1⟩ [(!r498_1.2) = true] (by kernel_rfl) ⟨b499_e0, trivial⟩ ?_
            have h := Option.some.inj h
            subst h
            exact At.fin hm ht ⟨[], [], [.nil true 0 5 (.pair (.int .u8) (.slice (.int .u8))) (some 73), .nil true 0 6 (.int .u8) (some 5)], [2, 3], [0, 4, 5]⟩ [0 + 7 ≤ 7] (by kernel_rfl) ⟨(by decide), trivial⟩
          · refine At.step hm ht ⟨[], [false], [], [2, 5, 7, 8, 9], [0, 1, 2, 3]⟩ 11 ⟨[(2, .one (.c (.ptr 0 0))), (5, .one (.c (.own 1 (.int .u8) r489_0.2.1))), (7, .one (.c (.ptr 2 0))), (8, .one (.c (.d (.int .i64 (IntKind.wrap .i64 (r489_0.1.getD 5 0)))))), (9, .one (.c (.own 3 (.pair (.int .u8) (.slice (.int .u8))) r498_1.1)))], [(1, some ⟨5, 0⟩), (3, some ⟨73, 0⟩)], [(0, [.d (.int .u16 0), .d (.int .u16 0), .d (.int .u32 0), .d (.int .u32 0), .d (.int .u8 0), .d (.sl .unit []), .d (.sl .unit [])]), (2, [.d (.int .u16 (IntKind.wrap .u16 (r489_0.1.getD 0 0))), .d (.int .u16 (IntKind.wrap .u16 (r489_0.1.getD 1 0))), .d (.int .u32 (IntKind.wrap .u32 (r489_0.1.getD 2 0))), .d (.int .u32 (IntKind.wrap .u32 (r489_0.1.getD 3 0))), .d (.int .u8 (IntKind.wrap .u8 (r489_0.1.getD 4 0))), .d (.sl .unit []), .d (.sl .unit [])])], 4⟩ [(!r498_1.2) = false] (by kernel_rfl) ⟨b499_e0, trivial⟩ ?_
            rcases iteS h with ⟨b501_e0, h⟩ | ⟨b501_e0, h⟩
            · refine At.step hm ht ⟨[], [true], [], [2], [0]⟩ 12 ⟨[(2, .one (.c (.ptr 0 0)))], [], [(0, [.d (.int .u16 0), .d (.int .u16 0), .d (.int .u32 0), .d (.int .u32 0), .d (.int .u8 0), .d (.sl .unit []), .d (.sl .unit [])])], 1⟩ [(decide (((IntKind.wrap .i64 (((r489_0.2.1.length : Nat) : Int) - (IntKind.wrap .i64 (r489_0.1.getD 5 0)))) : Int) > 1024)) = true] (by kernel_rfl) ⟨b501_e0, trivial⟩ ?_
              have h := Option.some.inj h
              subst h
              exact At.fin hm ht ⟨[], [], [.nil true 0 5 (.pair (.int .u8) (.slice (.int .u8))) (some 73), .nil true 0 6 (.int .u8) (some 5)], [2, 3], [0, 4, 5]⟩ [0 + 7 ≤ 7] (by kernel_rfl) ⟨(by decide), trivial⟩
            · refine At.step hm ht ⟨[], [false], [], [2, 5, 7, 8, 9], [0, 1, 2, 3]⟩ 13 ⟨[(2, .one (.c (.ptr 0 0))), (5, .one (.c (.own 1 (.int .u8) r489_0.2.1))), (7, .one (.c (.ptr 2 0))), (8, .one (.c (.d (.int .i64 (IntKind.wrap .i64 (r489_0.1.getD 5 0)))))), (9, .one (.c (.own 3 (.pair (.int .u8) (.slice (.int .u8))) r498_1.1)))], [(1, some ⟨5, 0⟩), (3, some ⟨73, 0⟩)], [(0, [.d (.int .u16 0), .d (.int .u16 0), .d (.int .u32 0), .d (.int .u32 0), .d (.int .u8 0), .d (.sl .unit []), .d (.sl .unit [])]), (2, [.d (.int .u16 (IntKind.wrap .u16 (r489_0.1.getD 0 0))), .d (.int .u16 (IntKind.wrap .u16 (r489_0.1.getD 1 0))), .d (.int .u32 (IntKind.wrap .u32 (r489_0.1.getD 2 0))), .d (.int .u32 (IntKind.wrap .u32 (r489_0.1.getD 3 0))), .d (.int .u8 (IntKind.wrap .u8 (r489_0.1.getD 4 0))), .d (.sl .unit []), .d (.sl .unit [])])], 4⟩ [(decide (((IntKind.wrap .i64 (((r489_0.2.1.length : Nat) : Int) - (IntKind.wrap .i64 (r489_0.1.getD 5 0)))) : Int) > 1024)) = false] (by kernel_rfl) ⟨b501_e0, trivial⟩ ?_
              obtain ⟨g503_0, h⟩ := ifS h
              obtain ⟨g503_1, h⟩ := ifS h
              refine At.step hm ht ⟨[], [], [], [2, 7], [0, 2, 3, 8]⟩ 14 ⟨[(2, .one (.c (.ptr 0 0))), (7, .one (.c (.ptr 1 0)))], [(2, some ⟨73, 0⟩), (3, some ⟨5, 0⟩)], [(0, [.d (.int .u16 0), .d (.int .u16 0), .d (.int .u32 0), .d (.int .u32 0), .d (.int .u8 0), .d (.sl .unit []), .d (.sl .unit [])]), (1, [.d (.int .u16 (IntKind.wrap .u16 (r489_0.1.getD 0 0))), .d (.int .u16 (IntKind.wrap .u16 (r489_0.1.getD 1 0))), .d (.int .u32 (IntKind.wrap .u32 (r489_0.1.getD 2 0))), .d (.int .u32 (IntKind.wrap .u32 (r489_0.1.getD 3 0))), .d (.int .u8 (IntKind.wrap .u8 (r489_0.1.getD 4 0))), .own 2 (.pair (.int .u8) (.slice (.int .u8))) r498_1.1, .own 3 (.int .u8) ((r489_0.2.1.take r489_0.2.1.length).drop (IntKind.wrap .i64 (r489_0.1.getD 5 0)).toNat)])], 4⟩ [cutOk r489_0.2.1.length (some (IntKind.wrap .i64 (r489_0.1.getD 5 0))) none none, ((r489_0.2.1.take r489_0.2.1.length).drop (IntKind.wrap .i64 (r489_0.1.getD 5 0)).toNat).length ≤ maxLen ∧ ((r489_0.2.1.take r489_0.2.1.length).drop (IntKind.wrap .i64 (r489_0.1.getD 5 0)).toNat).length * 1 ≤ 140737488355328, 5 + 1 ≤ 7, 6 + 1 ≤ 7] (by kernel_rfl) ⟨g503_0, g503_1, (by decide), (by decide), trivial⟩ ?_
              have h := Option.some.inj h
              subst h
              exact At.fin hm ht ⟨[], [], [], [2, 3], [0, 2, 3]⟩ [0 + 7 ≤ 7] (by kernel_rfl) ⟨(by decide), trivial⟩
/-! brougham/trace.Bytes -/
def f72_trace_Bytes_in (b : List Int) : Inn := ⟨[.c (.d (.sl (.int .u8) b))], [], [], 0⟩
def f72_trace_Bytes_out (r : ByteArray) : Out := ⟨.one (.c (.d (.str r))), [], [], 0⟩
def f72_trace_Bytes (n : Nat) (b : List Int) : Option (ByteArray) :=
  (f123_seg_Parse n b).bind fun r432_0 =>
  if ((r432_0.1 : Int) != 0) = true then
    (f102_num_Text r432_0.1).bind fun r506_0 =>
    (f102_num_Text ((b.length : Nat) : Int)).bind fun r506_1 =>
    (f101_num_Line n [(⟨#[110, 111, 110, 101]⟩ : ByteArray), r506_0, r506_1]).bind fun r506_2 =>
    some r506_2
  else
    (f65_trace_Segment n r432_0.2.1 r432_0.2.2.1 r432_0.2.2.2.1 r432_0.2.2.2.2.1 r432_0.2.2.2.2.2.1 r432_0.2.2.2.2.2.2.1 r432_0.2.2.2.2.2.2.2).bind fun r507_0 =>
    some r507_0
theorem f72_trace_Bytes_ok (n : Nat) (b : List Int) (r : ByteArray) (h : f72_trace_Bytes n b = some r) : FnOK Go.Proofs.Try.prog 72 (f72_trace_Bytes_in b) (f72_trace_Bytes_out r) := by
  unfold f72_trace_Bytes at h
  refine At.fn (r := 0) Go.Proofs.Try.func72 rfl (by kernel_rfl) rfl rfl (by kernel_rfl) ?_
  show At Go.Proofs.Try.prog Go.Proofs.Try.f72 0 0 ⟨[(0, .one (.c (.d (.sl (.int .u8) b))))], [], [], 0⟩ _
  refine At.step hm ht ⟨[], [], [], [0], []⟩ 1 ⟨[(0, .one (.c (.d (.sl (.int .u8) b))))], [], [], 0⟩ [] (by kernel_rfl) trivial ?_
  obtain ⟨r432_0, cr432_0, h⟩ := bindS h
  refine At.step hm ht ⟨[(1, .call [] [] (f123_seg_Parse_out r432_0))], [], [], [0, 3, 4], [7, 2, 3]⟩ 2 ⟨[(0, .one (.c (.d (.sl (.int .u8) b)))), (3, .one (.c (.ptr 0 0))), (4, .one (.c (.d (.int .i64 r432_0.1))))], [(1, some ⟨73, 0⟩), (2, some ⟨5, 0⟩)], [(0, [.d (.int .u16 r432_0.2.1), .d (.int .u16 r432_0.2.2.1), .d (.int .u32 r432_0.2.2.2.1), .d (.int .u32 r432_0.2.2.2.2.1), .d (.int .u8 r432_0.2.2.2.2.2.1), .own 1 (.pair (.int .u8) (.slice (.int .u8))) r432_0.2.2.2.2.2.2.1, .own 2 (.int .u8) r432_0.2.2.2.2.2.2.2])], 3⟩ [FnOK Go.Proofs.Try.prog 123 (f123_seg_Parse_in b) (f123_seg_Parse_out r432_0), 0 + 7 ≤ 7] (by kernel_rfl) ⟨(f123_seg_Parse_ok n b r432_0 cr432_0), (by decide), trivial⟩ ?_
  rcases iteS h with ⟨b505_e0, h⟩ | ⟨b505_e0, h⟩
  · refine At.step hm ht ⟨[], [true], [], [0, 4], []⟩ 3 ⟨[(0, .one (.c (.d (.sl (.int .u8) b)))), (4, .one (.c (.d (.int .i64 r432_0.1))))], [], [], 0⟩ [((r432_0.1 : Int) != 0) = true] (by kernel_rfl) ⟨b505_e0, trivial⟩ ?_
    obtain ⟨r506_0, cr506_0, h⟩ := bindS h
    obtain ⟨r506_1, cr506_1, h⟩ := bindS h
    obtain ⟨r506_2, cr506_2, h⟩ := bindS h
    have h := Option.some.inj h
    subst h
    exact At.fin hm ht ⟨[(1, .call [] [] (f102_num_Text_out r506_0)), (4, .call [] [] (f102_num_Text_out r506_1)), (6, .call [] [] (f101_num_Line_out r506_2))], [], [], [2], []⟩ [FnOK Go.Proofs.Try.prog 102 (f102_num_Text_in r432_0.1) (f102_num_Text_out r506_0), FnOK Go.Proofs.Try.prog 102 (f102_num_Text_in ((b.length : Nat) : Int)) (f102_num_Text_out r506_1), FnOK Go.Proofs.Try.prog 101 (f101_num_Line_in [(⟨#[110, 111, 110, 101]⟩ : ByteArray), r506_0, r506_1]) (f101_num_Line_out r506_2)] (by kernel_rfl) ⟨(f102_num_Text_ok r432_0.1 r506_0 cr506_0), (f102_num_Text_ok ((b.length : Nat) : Int) r506_1 cr506_1), (f101_num_Line_ok n [(⟨#[110, 111, 110, 101]⟩ : ByteArray), r506_0, r506_1] r506_2 cr506_2), trivial⟩
  · refine At.step hm ht ⟨[], [false], [], [3], [0, 1, 2]⟩ 4 ⟨[(3, .one (.c (.ptr 0 0)))], [(1, some ⟨73, 0⟩), (2, some ⟨5, 0⟩)], [(0, [.d (.int .u16 r432_0.2.1), .d (.int .u16 r432_0.2.2.1), .d (.int .u32 r432_0.2.2.2.1), .d (.int .u32 r432_0.2.2.2.2.1), .d (.int .u8 r432_0.2.2.2.2.2.1), .own 1 (.pair (.int .u8) (.slice (.int .u8))) r432_0.2.2.2.2.2.2.1, .own 2 (.int .u8) r432_0.2.2.2.2.2.2.2])], 3⟩ [((r432_0.1 : Int) != 0) = false] (by kernel_rfl) ⟨b505_e0, trivial⟩ ?_
    obtain ⟨r507_0, cr507_0, h⟩ := bindS h
    have h := Option.some.inj h
    subst h
    exact At.fin hm ht ⟨[(1, .call [] [] (f65_trace_Segment_out r507_0))], [], [], [2], []⟩ [FnOK Go.Proofs.Try.prog 65 (f65_trace_Segment_in r432_0.2.1 r432_0.2.2.1 r432_0.2.2.2.1 r432_0.2.2.2.2.1 r432_0.2.2.2.2.2.1 r432_0.2.2.2.2.2.2.1 r432_0.2.2.2.2.2.2.2) (f65_trace_Segment_out r507_0)] (by kernel_rfl) ⟨(f65_trace_Segment_ok n r432_0.2.1 r432_0.2.2.1 r432_0.2.2.2.1 r432_0.2.2.2.2.1 r432_0.2.2.2.2.2.1 r432_0.2.2.2.2.2.2.1 r432_0.2.2.2.2.2.2.2 r507_0 cr507_0), trivial⟩
/-! brougham/broughamlaw26.alive -/
def f69_broughamlaw26_alive_in : Inn := ⟨[], [], [], 0⟩
def f69_broughamlaw26_alive_out (r : Bool) : Out := ⟨.one (.c (.d (.bool r))), [], [], 0⟩
def f69_broughamlaw26_alive (n : Nat) : Option (Bool) :=
  (f72_trace_Bytes n [0, 0, 0, 0, 0, 0, 0, 0, 0, 0, 0, 0, 0, 0]).bind fun r430_0 =>
  some (r430_0.toList == (⟨#[48, 32, 48, 32, 115, 101, 113, 32, 48, 48, 48, 48, 48, 48, 48, 48, 32, 97, 99, 107, 32, 48, 48, 48, 48, 48, 48, 48, 48, 32, 110, 111, 110, 101, 59, 32, 48]⟩ : ByteArray).toList)
theorem f69_broughamlaw26_alive_ok (n : Nat) (r : Bool) (h : f69_broughamlaw26_alive n = some r) : FnOK Go.Proofs.Try.prog 69 (f69_broughamlaw26_alive_in) (f69_broughamlaw26_alive_out r) := by
  unfold f69_broughamlaw26_alive at h
  refine At.fn (r := 0) Go.Proofs.Try.func69 rfl (by kernel_rfl) rfl rfl (by kernel_rfl) ?_
  show At Go.Proofs.Try.prog Go.Proofs.Try.f69 0 0 ⟨[], [], [], 0⟩ _
  refine At.step hm ht ⟨[], [], [], [], []⟩ 1 ⟨[], [], [], 0⟩ [] (by kernel_rfl) trivial ?_
  obtain ⟨r430_0, cr430_0, h⟩ := bindS h
  have h := Option.some.inj h
  subst h
  exact At.fin hm ht ⟨[(1, .call [] [] (f72_trace_Bytes_out r430_0))], [], [], [0], []⟩ [FnOK Go.Proofs.Try.prog 72 (f72_trace_Bytes_in [0, 0, 0, 0, 0, 0, 0, 0, 0, 0, 0, 0, 0, 0]) (f72_trace_Bytes_out r430_0)] (by kernel_rfl) ⟨(f72_trace_Bytes_ok n [0, 0, 0, 0, 0, 0, 0, 0, 0, 0, 0, 0, 0, 0] r430_0 cr430_0), trivial⟩
/-! brougham/broughamlaw26.TraceSays -/
def f13_broughamlaw26_TraceSays_in (s_0 : Int) (s_1 : Int) (s_2 : Int) (s_3 : Int) (s_4 : Int) (s_5 : List (Int × List Int)) (s_6 : List Int) (o__0 : Int) (o__1 : List Int) : Inn := ⟨[.agg [.d (.int .u16 s_0), .d (.int .u16 s_1), .d (.int .u32 s_2), .d (.int .u32 s_3), .d (.int .u8 s_4), .d (.sl (.pair (.int .u8) (.slice (.int .u8))) s_5), .d (.sl (.int .u8) s_6)], .agg [.d (.int .u8 o__0), .d (.sl (.int .u8) o__1)]], [], [], 0⟩
def f13_broughamlaw26_TraceSays_out (r : Bool) : Out := ⟨.one (.c (.d (.bool r))), [], [], 0⟩
def f13_broughamlaw26_TraceSays (n : Nat) (s_0 : Int) (s_1 : Int) (s_2 : Int) (s_3 : Int) (s_4 : Int) (s_5 : List (Int × List Int)) (s_6 : List Int) (o__0 : Int) (o__1 : List Int) : Option (Bool) :=
  (f64_broughamlaw07_Great n s_0 s_1 s_2 s_3 s_4 s_5 s_6).bind fun r2_0 =>
  if r2_0 = true then
    some true
  else
    if (decide ((((o__1.length : Nat) : Int) : Int) > 400)) = true then
      some true
    else
      (f65_trace_Segment n s_0 s_1 s_2 s_3 s_4 s_5 s_6).bind fun r18_0 =>
      (f66_broughamref26_Segment n s_0 s_1 s_2 s_3 s_4 s_5 s_6).bind fun r18_1 =>
      if (r18_0.toList == r18_1.toList) = true then
        (f67_trace_Option n o__0 o__1).bind fun r18_2 =>
        (f68_broughamref26_Option n o__0 o__1).bind fun r18_3 =>
        if (r18_2.toList == r18_3.toList) = true then
          (f69_broughamlaw26_alive n).bind fun r18_4 =>
          some r18_4
        else
          some false
      else
        some false
theorem f13_broughamlaw26_TraceSays_ok (n : Nat) (s_0 : Int) (s_1 : Int) (s_2 : Int) (s_3 : Int) (s_4 : Int) (s_5 : List (Int × List Int)) (s_6 : List Int) (o__0 : Int) (o__1 : List Int) (r : Bool) (h : f13_broughamlaw26_TraceSays n s_0 s_1 s_2 s_3 s_4 s_5 s_6 o__0 o__1 = some r) : FnOK Go.Proofs.Try.prog 13 (f13_broughamlaw26_TraceSays_in s_0 s_1 s_2 s_3 s_4 s_5 s_6 o__0 o__1) (f13_broughamlaw26_TraceSays_out r) := by
  unfold f13_broughamlaw26_TraceSays at h
  refine At.fn (r := 0) Go.Proofs.Try.func13 rfl (by kernel_rfl) rfl rfl (by kernel_rfl) ?_
  show At Go.Proofs.Try.prog Go.Proofs.Try.f13 0 0 ⟨[(0, .one (.agg [.d (.int .u16 s_0), .d (.int .u16 s_1), .d (.int .u32 s_2), .d (.int .u32 s_3), .d (.int .u8 s_4), .d (.sl (.pair (.int .u8) (.slice (.int .u8))) s_5), .d (.sl (.int .u8) s_6)])), (1, .one (.agg [.d (.int .u8 o__0), .d (.sl (.int .u8) o__1)]))], [], [], 0⟩ _
  refine At.step hm ht ⟨[], [], [], [2, 3], [0, 1]⟩ 1 ⟨[(2, .one (.c (.ptr 0 0))), (3, .one (.c (.ptr 1 0)))], [], [(0, [.d (.int .u16 s_0), .d (.int .u16 s_1), .d (.int .u32 s_2), .d (.int .u32 s_3), .d (.int .u8 s_4), .d (.sl (.pair (.int .u8) (.slice (.int .u8))) s_5), .d (.sl (.int .u8) s_6)]), (1, [.d (.int .u8 o__0), .d (.sl (.int .u8) o__1)])], 2⟩ [] (by kernel_rfl) trivial ?_
  obtain ⟨r2_0, cr2_0, h⟩ := bindS h
  rcases iteS h with ⟨b2_2, h⟩ | ⟨b2_2, h⟩
  · refine At.step hm ht ⟨[(1, .call [] [] (f64_broughamlaw07_Great_out r2_0)), (2, .b true)], [true], [], [], []⟩ 2 ⟨[], [], [], 0⟩ [FnOK Go.Proofs.Try.prog 64 (f64_broughamlaw07_Great_in s_0 s_1 s_2 s_3 s_4 s_5 s_6) (f64_broughamlaw07_Great_out r2_0), r2_0 = true, true = true] (by kernel_rfl) ⟨(f64_broughamlaw07_Great_ok n s_0 s_1 s_2 s_3 s_4 s_5 s_6 r2_0 cr2_0), b2_2, rfl, trivial⟩ ?_
    have h := Option.some.inj h
    subst h
    exact At.fin hm ht ⟨[], [], [], [4], []⟩ [] (by kernel_rfl) trivial
  · rcases iteS h with ⟨b2_e0, h⟩ | ⟨b2_e0, h⟩
    · refine At.step hm ht ⟨[(1, .call [] [] (f64_broughamlaw07_Great_out r2_0)), (2, .b false)], [true], [], [], []⟩ 2 ⟨[], [], [], 0⟩ [FnOK Go.Proofs.Try.prog 64 (f64_broughamlaw07_Great_in s_0 s_1 s_2 s_3 s_4 s_5 s_6) (f64_broughamlaw07_Great_out r2_0), r2_0 = false, (decide ((((o__1.length : Nat) : Int) : Int) > 400)) = true] (by kernel_rfl) ⟨(f64_broughamlaw07_Great_ok n s_0 s_1 s_2 s_3 s_4 s_5 s_6 r2_0 cr2_0), b2_2, b2_e0, trivial⟩ ?_
      have h := Option.some.inj h
      subst h
      exact At.fin hm ht ⟨[], [], [], [4], []⟩ [] (by kernel_rfl) trivial
    · refine At.step hm ht ⟨[(1, .call [] [] (f64_broughamlaw07_Great_out r2_0)), (2, .b false)], [false], [], [2, 3], [0, 1]⟩ 3 ⟨[(2, .one (.c (.ptr 0 0))), (3, .one (.c (.ptr 1 0)))], [], [(0, [.d (.int .u16 s_0), .d (.int .u16 s_1), .d (.int .u32 s_2), .d (.int .u32 s_3), .d (.int .u8 s_4), .d (.sl (.pair (.int .u8) (.slice (.int .u8))) s_5), .d (.sl (.int .u8) s_6)]), (1, [.d (.int .u8 o__0), .d (.sl (.int .u8) o__1)])], 2⟩ [FnOK Go.Proofs.Try.prog 64 (f64_broughamlaw07_Great_in s_0 s_1 s_2 s_3 s_4 s_5 s_6) (f64_broughamlaw07_Great_out r2_0), r2_0 = false, (decide ((((o__1.length : Nat) : Int) : Int) > 400)) = false] (by kernel_rfl) ⟨(f64_broughamlaw07_Great_ok n s_0 s_1 s_2 s_3 s_4 s_5 s_6 r2_0 cr2_0), b2_2, b2_e0, trivial⟩ ?_
      obtain ⟨r18_0, cr18_0, h⟩ := bindS h
      obtain ⟨r18_1, cr18_1, h⟩ := bindS h
      rcases iteS h with ⟨b18_5, h⟩ | ⟨b18_5, h⟩
      · obtain ⟨r18_2, cr18_2, h⟩ := bindS h
        obtain ⟨r18_3, cr18_3, h⟩ := bindS h
        rcases iteS h with ⟨b18_12, h⟩ | ⟨b18_12, h⟩
        · obtain ⟨r18_4, cr18_4, h⟩ := bindS h
          have h := Option.some.inj h
          subst h
          exact At.fin hm ht ⟨[(1, .call [] [] (f65_trace_Segment_out r18_0)), (3, .call [] [] (f66_broughamref26_Segment_out r18_1)), (5, .b true), (7, .call [] [] (f67_trace_Option_out r18_2)), (9, .call [] [] (f68_broughamref26_Option_out r18_3)), (12, .b true), (13, .call [] [] (f69_broughamlaw26_alive_out r18_4))], [], [], [4], []⟩ [FnOK Go.Proofs.Try.prog 65 (f65_trace_Segment_in s_0 s_1 s_2 s_3 s_4 s_5 s_6) (f65_trace_Segment_out r18_0), FnOK Go.Proofs.Try.prog 66 (f66_broughamref26_Segment_in s_0 s_1 s_2 s_3 s_4 s_5 s_6) (f66_broughamref26_Segment_out r18_1), (r18_0.toList == r18_1.toList) = true, FnOK Go.Proofs.Try.prog 67 (f67_trace_Option_in o__0 o__1) (f67_trace_Option_out r18_2), FnOK Go.Proofs.Try.prog 68 (f68_broughamref26_Option_in o__0 o__1) (f68_broughamref26_Option_out r18_3), (r18_2.toList == r18_3.toList) = true, FnOK Go.Proofs.Try.prog 69 (f69_broughamlaw26_alive_in) (f69_broughamlaw26_alive_out r18_4)] (by kernel_rfl) ⟨(f65_trace_Segment_ok n s_0 s_1 s_2 s_3 s_4 s_5 s_6 r18_0 cr18_0), (f66_broughamref26_Segment_ok n s_0 s_1 s_2 s_3 s_4 s_5 s_6 r18_1 cr18_1), b18_5, (f67_trace_Option_ok n o__0 o__1 r18_2 cr18_2), (f68_broughamref26_Option_ok n o__0 o__1 r18_3 cr18_3), b18_12, (f69_broughamlaw26_alive_ok n r18_4 cr18_4), trivial⟩
        · have h := Option.some.inj h
          subst h
          exact At.fin hm ht ⟨[(1, .call [] [] (f65_trace_Segment_out r18_0)), (3, .call [] [] (f66_broughamref26_Segment_out r18_1)), (5, .b true), (7, .call [] [] (f67_trace_Option_out r18_2)), (9, .call [] [] (f68_broughamref26_Option_out r18_3)), (12, .b false)], [], [], [4], []⟩ [FnOK Go.Proofs.Try.prog 65 (f65_trace_Segment_in s_0 s_1 s_2 s_3 s_4 s_5 s_6) (f65_trace_Segment_out r18_0), FnOK Go.Proofs.Try.prog 66 (f66_broughamref26_Segment_in s_0 s_1 s_2 s_3 s_4 s_5 s_6) (f66_broughamref26_Segment_out r18_1), (r18_0.toList == r18_1.toList) = true, FnOK Go.Proofs.Try.prog 67 (f67_trace_Option_in o__0 o__1) (f67_trace_Option_out r18_2), FnOK Go.Proofs.Try.prog 68 (f68_broughamref26_Option_in o__0 o__1) (f68_broughamref26_Option_out r18_3), (r18_2.toList == r18_3.toList) = false] (by kernel_rfl) ⟨(f65_trace_Segment_ok n s_0 s_1 s_2 s_3 s_4 s_5 s_6 r18_0 cr18_0), (f66_broughamref26_Segment_ok n s_0 s_1 s_2 s_3 s_4 s_5 s_6 r18_1 cr18_1), b18_5, (f67_trace_Option_ok n o__0 o__1 r18_2 cr18_2), (f68_broughamref26_Option_ok n o__0 o__1 r18_3 cr18_3), b18_12, trivial⟩
      · have h := Option.some.inj h
        subst h
        exact At.fin hm ht ⟨[(1, .call [] [] (f65_trace_Segment_out r18_0)), (3, .call [] [] (f66_broughamref26_Segment_out r18_1)), (5, .b false)], [], [], [4], []⟩ [FnOK Go.Proofs.Try.prog 65 (f65_trace_Segment_in s_0 s_1 s_2 s_3 s_4 s_5 s_6) (f65_trace_Segment_out r18_0), FnOK Go.Proofs.Try.prog 66 (f66_broughamref26_Segment_in s_0 s_1 s_2 s_3 s_4 s_5 s_6) (f66_broughamref26_Segment_out r18_1), (r18_0.toList == r18_1.toList) = false] (by kernel_rfl) ⟨(f65_trace_Segment_ok n s_0 s_1 s_2 s_3 s_4 s_5 s_6 r18_0 cr18_0), (f66_broughamref26_Segment_ok n s_0 s_1 s_2 s_3 s_4 s_5 s_6 r18_1 cr18_1), b18_5, trivial⟩
/-! brougham/broughamref07.Parse -/
def f122_broughamref07_Parse_in (b : List Int) : Inn := ⟨[.c (.d (.sl (.int .u8) b))], [], [], 0⟩
def f122_broughamref07_Parse_out (r : Int × Int × Int × Int × Int × Int × (List (Int × List Int)) × List Int) : Out := ⟨.tup [.agg [.d (.int .u16 r.2.1), .d (.int .u16 r.2.2.1), .d (.int .u32 r.2.2.2.1), .d (.int .u32 r.2.2.2.2.1), .d (.int .u8 r.2.2.2.2.2.1), .own 1 (.pair (.int .u8) (.slice (.int .u8))) r.2.2.2.2.2.2.1, .own 2 (.int .u8) r.2.2.2.2.2.2.2], .c (.d (.int .i64 r.1))], [(1, ⟨73, 0⟩), (2, ⟨5, 0⟩)], [(0, [.d (.int .u16 r.2.1), .d (.int .u16 r.2.2.1), .d (.int .u32 r.2.2.2.1), .d (.int .u32 r.2.2.2.2.1), .d (.int .u8 r.2.2.2.2.2.1), .own 1 (.pair (.int .u8) (.slice (.int .u8))) r.2.2.2.2.2.2.1, .own 2 (.int .u8) r.2.2.2.2.2.2.2])], 3⟩
def f122_broughamref07_Parse_L9 : Nat → (List Int) → Int → Int → Int → Int → Int → Int → Int → Int → Int → Int → Int → Int → (List (Int × List Int)) → Option ((Int × Int × Int × Int × Int × Int × (List (Int × List Int)) × List Int) ⊕ (List Int × Int × Int × Int × Int × Int × Int × Int × Int × Int × Int × Int × List (Int × List Int)))
  | 0, _, _, _, _, _, _, _, _, _, _, _, _, _, _ => none
  | n + 1, b, n_, at_, t2_0, t2_1, t2_2, t2_3, t2_4, s_0, s_1, s_2, s_3, s_4, s_5 =>
    if (decide ((at_ : Int) < (IntKind.wrap .i64 (14 + n_)))) = true then
      if (decide (((IntKind.wrap .i64 (at_ + 2)) : Int) > (IntKind.wrap .i64 (14 + n_)))) = true then
        some (.inl (71, 0, 0, 0, 0, 0, [], []))
      else
        if (0 : Int) ≤ at_ ∧ at_ < (((b).length : Nat) : Int) then
        if (((b.getD at_.toNat 0) : Int) == 0) = true then
          some (.inl (71, 0, 0, 0, 0, 0, [], []))
        else
          if (0 : Int) ≤ (IntKind.wrap .i64 (at_ + 1)) ∧ (IntKind.wrap .i64 (at_ + 1)) < (((b).length : Nat) : Int) then
          if (decide (((IntKind.wrap .i64 ((IntKind.wrap .i64 (at_ + 2)) + (IntKind.wrap .i64 (b.getD (IntKind.wrap .i64 (at_ + 1)).toNat 0)))) : Int) > (IntKind.wrap .i64 (14 + n_)))) = true then
            some (.inl (71, 0, 0, 0, 0, 0, [], []))
          else
            if (0 : Int) ≤ (IntKind.wrap .i64 (at_ + 1)) ∧ (IntKind.wrap .i64 (at_ + 1)) < (((b).length : Nat) : Int) then
            if (0 : Int) ≤ at_ ∧ at_ < (((b).length : Nat) : Int) then
            if cutOk b.length (some (IntKind.wrap .i64 (at_ + 2))) (some (IntKind.wrap .i64 ((IntKind.wrap .i64 (at_ + 2)) + (IntKind.wrap .i64 (b.getD (IntKind.wrap .i64 (at_ + 1)).toNat 0))))) none then
            if ([] : List Int).length + ((b.take (IntKind.wrap .i64 ((IntKind.wrap .i64 (at_ + 2)) + (IntKind.wrap .i64 (b.getD (IntKind.wrap .i64 (at_ + 1)).toNat 0)))).toNat).drop (IntKind.wrap .i64 (at_ + 2)).toNat).length ≤ maxLen ∧ (([] : List Int).length + ((b.take (IntKind.wrap .i64 ((IntKind.wrap .i64 (at_ + 2)) + (IntKind.wrap .i64 (b.getD (IntKind.wrap .i64 (at_ + 1)).toNat 0)))).toNat).drop (IntKind.wrap .i64 (at_ + 2)).toNat).length) * 1 ≤ 140737488355328 then
            if s_5.length + [((b.getD at_.toNat 0), ([] ++ ((b.take (IntKind.wrap .i64 ((IntKind.wrap .i64 (at_ + 2)) + (IntKind.wrap .i64 (b.getD (IntKind.wrap .i64 (at_ + 1)).toNat 0)))).toNat).drop (IntKind.wrap .i64 (at_ + 2)).toNat)))].length ≤ maxLen ∧ (s_5.length + [((b.getD at_.toNat 0), ([] ++ ((b.take (IntKind.wrap .i64 ((IntKind.wrap .i64 (at_ + 2)) + (IntKind.wrap .i64 (b.getD (IntKind.wrap .i64 (at_ + 1)).toNat 0)))).toNat).drop (IntKind.wrap .i64 (at_ + 2)).toNat)))].length) * 32 ≤ 140737488355328 then
            f122_broughamref07_Parse_L9 n b n_ (IntKind.wrap .i64 (at_ + (IntKind.wrap .i64 (2 + (IntKind.wrap .i64 (b.getD (IntKind.wrap .i64 (at_ + 1)).toNat 0)))))) t2_0 t2_1 t2_2 t2_3 t2_4 s_0 s_1 s_2 s_3 s_4 (s_5 ++ [((b.getD at_.toNat 0), ([] ++ ((b.take (IntKind.wrap .i64 ((IntKind.wrap .i64 (at_ + 2)) + (IntKind.wrap .i64 (b.getD (IntKind.wrap .i64 (at_ + 1)).toNat 0)))).toNat).drop (IntKind.wrap .i64 (at_ + 2)).toNat)))])
            else none
            else none
            else none
            else none
            else none
          else none
        else none
    else
      some (.inr ((b, at_, t2_0, t2_1, t2_2, t2_3, t2_4, s_0, s_1, s_2, s_3, s_4, s_5)))
def f122_broughamref07_Parse_L9_k (w : (Int × Int × Int × Int × Int × Int × (List (Int × List Int)) × List Int) ⊕ (List Int × Int × Int × Int × Int × Int × Int × Int × Int × Int × Int × Int × List (Int × List Int))) (o : Out) : Prop := match w with
  | .inl e => o = f122_broughamref07_Parse_out e
  | .inr e => At Go.Proofs.Try.prog Go.Proofs.Try.f122 0 15 ⟨[(0, .one (.c (.d (.sl (.int .u8) e.1)))), (2, .one (.c (.ptr 0 0))), (8, .one (.c (.ptr 1 0))), (9, .one (.c (.d (.int .i64 e.2.1))))], [(2, some ⟨73, 0⟩)], [(0, [.d (.int .u16 e.2.2.1), .d (.int .u16 e.2.2.2.1), .d (.int .u32 e.2.2.2.2.1), .d (.int .u32 e.2.2.2.2.2.1), .d (.int .u8 e.2.2.2.2.2.2.1), .d (.sl .unit []), .d (.sl .unit [])]), (1, [.d (.int .u16 e.2.2.2.2.2.2.2.1), .d (.int .u16 e.2.2.2.2.2.2.2.2.1), .d (.int .u32 e.2.2.2.2.2.2.2.2.2.1), .d (.int .u32 e.2.2.2.2.2.2.2.2.2.2.1), .d (.int .u8 e.2.2.2.2.2.2.2.2.2.2.2.1), .own 2 (.pair (.int .u8) (.slice (.int .u8))) e.2.2.2.2.2.2.2.2.2.2.2.2, .d (.sl .unit [])])], 3⟩ o
theorem f122_broughamref07_Parse_L9_ok (n : Nat) : ∀ (b : List Int) (n_ : Int) (at_ : Int) (t2_0 : Int) (t2_1 : Int) (t2_2 : Int) (t2_3 : Int) (t2_4 : Int) (s_0 : Int) (s_1 : Int) (s_2 : Int) (s_3 : Int) (s_4 : Int) (s_5 : List (Int × List Int)) (w : (Int × Int × Int × Int × Int × Int × (List (Int × List Int)) × List Int) ⊕ (List Int × Int × Int × Int × Int × Int × Int × Int × Int × Int × Int × Int × List (Int × List Int))) (h : f122_broughamref07_Parse_L9 n b n_ at_ t2_0 t2_1 t2_2 t2_3 t2_4 s_0 s_1 s_2 s_3 s_4 s_5 = some w) (o : Out) (hk : f122_broughamref07_Parse_L9_k w o), At Go.Proofs.Try.prog Go.Proofs.Try.f122 0 9 ⟨[(0, .one (.c (.d (.sl (.int .u8) b)))), (2, .one (.c (.ptr 0 0))), (4, .one (.c (.d (.int .i64 n_)))), (8, .one (.c (.ptr 1 0))), (9, .one (.c (.d (.int .i64 at_))))], [(2, some ⟨73, 0⟩)], [(0, [.d (.int .u16 t2_0), .d (.int .u16 t2_1), .d (.int .u32 t2_2), .d (.int .u32 t2_3), .d (.int .u8 t2_4), .d (.sl .unit []), .d (.sl .unit [])]), (1, [.d (.int .u16 s_0), .d (.int .u16 s_1), .d (.int .u32 s_2), .d (.int .u32 s_3), .d (.int .u8 s_4), .own 2 (.pair (.int .u8) (.slice (.int .u8))) s_5, .d (.sl .unit [])])], 3⟩ o := by
  induction n with
  | zero => intro b n_ at_ t2_0 t2_1 t2_2 t2_3 t2_4 s_0 s_1 s_2 s_3 s_4 s_5 w h; rw [f122_broughamref07_Parse_L9] at h; cases h
  | succ n ih =>
    intro b n_ at_ t2_0 t2_1 t2_2 t2_3 t2_4 s_0 s_1 s_2 s_3 s_4 s_5 w h o hk
    rw [f122_broughamref07_Parse_L9] at h
    rcases iteS h with ⟨b576_e0, h⟩ | ⟨b576_e0, h⟩
    · refine At.step hm ht ⟨[], [true], [], [0, 2, 4, 8, 9], [0, 1, 2]⟩ 10 ⟨[(0, .one (.c (.d (.sl (.int .u8) b)))), (2, .one (.c (.ptr 0 0))), (4, .one (.c (.d (.int .i64 n_)))), (8, .one (.c (.ptr 1 0))), (9, .one (.c (.d (.int .i64 at_))))], [(2, some ⟨73, 0⟩)], [(0, [.d (.int .u16 t2_0), .d (.int .u16 t2_1), .d (.int .u32 t2_2), .d (.int .u32 t2_3), .d (.int .u8 t2_4), .d (.sl .unit []), .d (.sl .unit [])]), (1, [.d (.int .u16 s_0), .d (.int .u16 s_1), .d (.int .u32 s_2), .d (.int .u32 s_3), .d (.int .u8 s_4), .own 2 (.pair (.int .u8) (.slice (.int .u8))) s_5, .d (.sl .unit [])])], 3⟩ [(decide ((at_ : Int) < (IntKind.wrap .i64 (14 + n_)))) = true] (by kernel_rfl) ⟨b576_e0, trivial⟩ ?_
      rcases iteS h with ⟨b577_5, h⟩ | ⟨b577_5, h⟩
      · refine At.step hm ht ⟨[(5, .b true)], [true], [], [2], [0]⟩ 11 ⟨[(2, .one (.c (.ptr 0 0)))], [], [(0, [.d (.int .u16 t2_0), .d (.int .u16 t2_1), .d (.int .u32 t2_2), .d (.int .u32 t2_3), .d (.int .u8 t2_4), .d (.sl .unit []), .d (.sl .unit [])])], 1⟩ [(decide (((IntKind.wrap .i64 (at_ + 2)) : Int) > (IntKind.wrap .i64 (14 + n_)))) = true, true = true] (by kernel_rfl) ⟨b577_5, rfl, trivial⟩ ?_
        have h := Option.some.inj h
        subst h
        have hk : o = f122_broughamref07_Parse_out (71, 0, 0, 0, 0, 0, [], []) := hk
        subst hk
        exact At.fin hm ht ⟨[], [], [.nil true 0 5 (.pair (.int .u8) (.slice (.int .u8))) (some 73), .nil true 0 6 (.int .u8) (some 5)], [2, 3], [0, 4, 5]⟩ [0 + 7 ≤ 7] (by kernel_rfl) ⟨(by decide), trivial⟩
      · obtain ⟨g577_0, h⟩ := ifS h
        rcases iteS h with ⟨b577_12, h⟩ | ⟨b577_12, h⟩
        · refine At.step hm ht ⟨[(5, .b false), (12, .b true)], [true], [], [2], [0]⟩ 11 ⟨[(2, .one (.c (.ptr 0 0)))], [], [(0, [.d (.int .u16 t2_0), .d (.int .u16 t2_1), .d (.int .u32 t2_2), .d (.int .u32 t2_3), .d (.int .u8 t2_4), .d (.sl .unit []), .d (.sl .unit [])])], 1⟩ [(decide (((IntKind.wrap .i64 (at_ + 2)) : Int) > (IntKind.wrap .i64 (14 + n_)))) = false, (0 : Int) ≤ at_ ∧ at_ < (((b).length : Nat) : Int), (((b.getD at_.toNat 0) : Int) == 0) = true, true = true] (by kernel_rfl) ⟨b577_5, g577_0, b577_12, rfl, trivial⟩ ?_
          have h := Option.some.inj h
          subst h
          have hk : o = f122_broughamref07_Parse_out (71, 0, 0, 0, 0, 0, [], []) := hk
          subst hk
          exact At.fin hm ht ⟨[], [], [.nil true 0 5 (.pair (.int .u8) (.slice (.int .u8))) (some 73), .nil true 0 6 (.int .u8) (some 5)], [2, 3], [0, 4, 5]⟩ [0 + 7 ≤ 7] (by kernel_rfl) ⟨(by decide), trivial⟩
        · obtain ⟨g577_1, h⟩ := ifS h
          rcases iteS h with ⟨b577_e0, h⟩ | ⟨b577_e0, h⟩
          · refine At.step hm ht ⟨[(5, .b false), (12, .b false)], [true], [], [2], [0]⟩ 11 ⟨[(2, .one (.c (.ptr 0 0)))], [], [(0, [.d (.int .u16 t2_0), .d (.int .u16 t2_1), .d (.int .u32 t2_2), .d (.int .u32 t2_3), .d (.int .u8 t2_4), .d (.sl .unit []), .d (.sl .unit [])])], 1⟩ [(decide (((IntKind.wrap .i64 (at_ + 2)) : Int) > (IntKind.wrap .i64 (14 + n_)))) = false, (0 : Int) ≤ at_ ∧ at_ < (((b).length : Nat) : Int), (((b.getD at_.toNat 0) : Int) == 0) = false, (0 : Int) ≤ (IntKind.wrap .i64 (at_ + 1)) ∧ (IntKind.wrap .i64 (at_ + 1)) < (((b).length : Nat) : Int), (decide (((IntKind.wrap .i64 ((IntKind.wrap .i64 (at_ + 2)) + (IntKind.wrap .i64 (b.getD (IntKind.wrap .i64 (at_ + 1)).toNat 0)))) : Int) > (IntKind.wrap .i64 (14 + n_)))) = true] (by kernel_rfl) ⟨b577_5, g577_0, b577_12, g577_1, b577_e0, trivial⟩ ?_
            have h := Option.some.inj h
            subst h
            have hk : o = f122_broughamref07_Parse_out (71, 0, 0, 0, 0, 0, [], []) := hk
            subst hk
            exact At.fin hm ht ⟨[], [], [.nil true 0 5 (.pair (.int .u8) (.slice (.int .u8))) (some 73), .nil true 0 6 (.int .u8) (some 5)], [2, 3], [0, 4, 5]⟩ [0 + 7 ≤ 7] (by kernel_rfl) ⟨(by decide), trivial⟩
          · refine At.step hm ht ⟨[(5, .b false), (12, .b false)], [false], [], [0, 2, 4, 8, 9], [0, 1, 2]⟩ 12 ⟨[(0, .one (.c (.d (.sl (.int .u8) b)))), (2, .one (.c (.ptr 0 0))), (4, .one (.c (.d (.int .i64 n_)))), (8, .one (.c (.ptr 1 0))), (9, .one (.c (.d (.int .i64 at_))))], [(2, some ⟨73, 0⟩)], [(0, [.d (.int .u16 t2_0), .d (.int .u16 t2_1), .d (.int .u32 t2_2), .d (.int .u32 t2_3), .d (.int .u8 t2_4), .d (.sl .unit []), .d (.sl .unit [])]), (1, [.d (.int .u16 s_0), .d (.int .u16 s_1), .d (.int .u32 s_2), .d (.int .u32 s_3), .d (.int .u8 s_4), .own 2 (.pair (.int .u8) (.slice (.int .u8))) s_5, .d (.sl .unit [])])], 3⟩ [(decide (((IntKind.wrap .i64 (at_ + 2)) : Int) > (IntKind.wrap .i64 (14 + n_)))) = false, (0 : Int) ≤ at_ ∧ at_ < (((b).length : Nat) : Int), (((b.getD at_.toNat 0) : Int) == 0) = false, (0 : Int) ≤ (IntKind.wrap .i64 (at_ + 1)) ∧ (IntKind.wrap .i64 (at_ + 1)) < (((b).length : Nat) : Int), (decide (((IntKind.wrap .i64 ((IntKind.wrap .i64 (at_ + 2)) + (IntKind.wrap .i64 (b.getD (IntKind.wrap .i64 (at_ + 1)).toNat 0)))) : Int) > (IntKind.wrap .i64 (14 + n_)))) = false] (by kernel_rfl) ⟨b577_5, g577_0, b577_12, g577_1, b577_e0, trivial⟩ ?_
            obtain ⟨g581_0, h⟩ := ifS h
            refine At.step hm ht ⟨[], [], [], [0, 2, 4, 8, 9, 10], [0, 1, 2]⟩ 13 ⟨[(0, .one (.c (.d (.sl (.int .u8) b)))), (2, .one (.c (.ptr 0 0))), (4, .one (.c (.d (.int .i64 n_)))), (8, .one (.c (.ptr 1 0))), (9, .one (.c (.d (.int .i64 at_)))), (10, .one (.c (.d (.int .i64 (IntKind.wrap .i64 (b.getD (IntKind.wrap .i64 (at_ + 1)).toNat 0))))))], [(2, some ⟨73, 0⟩)], [(0, [.d (.int .u16 t2_0), .d (.int .u16 t2_1), .d (.int .u32 t2_2), .d (.int .u32 t2_3), .d (.int .u8 t2_4), .d (.sl .unit []), .d (.sl .unit [])]), (1, [.d (.int .u16 s_0), .d (.int .u16 s_1), .d (.int .u32 s_2), .d (.int .u32 s_3), .d (.int .u8 s_4), .own 2 (.pair (.int .u8) (.slice (.int .u8))) s_5, .d (.sl .unit [])])], 3⟩ [(0 : Int) ≤ (IntKind.wrap .i64 (at_ + 1)) ∧ (IntKind.wrap .i64 (at_ + 1)) < (((b).length : Nat) : Int)] (by kernel_rfl) ⟨g581_0, trivial⟩ ?_
            obtain ⟨g582_0, h⟩ := ifS h
            obtain ⟨g582_1, h⟩ := ifS h
            obtain ⟨g582_2, h⟩ := ifS h
            obtain ⟨g582_3, h⟩ := ifS h
            refine At.step hm ht ⟨[], [], [], [0, 2, 4, 8, 9, 10], [0, 1, 21]⟩ 14 ⟨[(0, .one (.c (.d (.sl (.int .u8) b)))), (2, .one (.c (.ptr 0 0))), (4, .one (.c (.d (.int .i64 n_)))), (8, .one (.c (.ptr 1 0))), (9, .one (.c (.d (.int .i64 at_)))), (10, .one (.c (.d (.int .i64 (IntKind.wrap .i64 (b.getD (IntKind.wrap .i64 (at_ + 1)).toNat 0))))))], [(2, some ⟨73, 0⟩)], [(0, [.d (.int .u16 t2_0), .d (.int .u16 t2_1), .d (.int .u32 t2_2), .d (.int .u32 t2_3), .d (.int .u8 t2_4), .d (.sl .unit []), .d (.sl .unit [])]), (1, [.d (.int .u16 s_0), .d (.int .u16 s_1), .d (.int .u32 s_2), .d (.int .u32 s_3), .d (.int .u8 s_4), .own 2 (.pair (.int .u8) (.slice (.int .u8))) (s_5 ++ [((b.getD at_.toNat 0), ([] ++ ((b.take (IntKind.wrap .i64 ((IntKind.wrap .i64 (at_ + 2)) + (IntKind.wrap .i64 (b.getD (IntKind.wrap .i64 (at_ + 1)).toNat 0)))).toNat).drop (IntKind.wrap .i64 (at_ + 2)).toNat)))]), .d (.sl .unit [])])], 3⟩ [(0 : Int) ≤ at_ ∧ at_ < (((b).length : Nat) : Int), cutOk b.length (some (IntKind.wrap .i64 (at_ + 2))) (some (IntKind.wrap .i64 ((IntKind.wrap .i64 (at_ + 2)) + (IntKind.wrap .i64 (b.getD (IntKind.wrap .i64 (at_ + 1)).toNat 0))))) none, ([] : List Int).length + ((b.take (IntKind.wrap .i64 ((IntKind.wrap .i64 (at_ + 2)) + (IntKind.wrap .i64 (b.getD (IntKind.wrap .i64 (at_ + 1)).toNat 0)))).toNat).drop (IntKind.wrap .i64 (at_ + 2)).toNat).length ≤ maxLen ∧ (([] : List Int).length + ((b.take (IntKind.wrap .i64 ((IntKind.wrap .i64 (at_ + 2)) + (IntKind.wrap .i64 (b.getD (IntKind.wrap .i64 (at_ + 1)).toNat 0)))).toNat).drop (IntKind.wrap .i64 (at_ + 2)).toNat).length) * 1 ≤ 140737488355328, s_5.length + [((b.getD at_.toNat 0), ([] ++ ((b.take (IntKind.wrap .i64 ((IntKind.wrap .i64 (at_ + 2)) + (IntKind.wrap .i64 (b.getD (IntKind.wrap .i64 (at_ + 1)).toNat 0)))).toNat).drop (IntKind.wrap .i64 (at_ + 2)).toNat)))].length ≤ maxLen ∧ (s_5.length + [((b.getD at_.toNat 0), ([] ++ ((b.take (IntKind.wrap .i64 ((IntKind.wrap .i64 (at_ + 2)) + (IntKind.wrap .i64 (b.getD (IntKind.wrap .i64 (at_ + 1)).toNat 0)))).toNat).drop (IntKind.wrap .i64 (at_ + 2)).toNat)))].length) * 32 ≤ 140737488355328, 5 + 1 ≤ 7] (by kernel_rfl) ⟨g582_0, g582_1, g582_2, g582_3, (by decide), trivial⟩ ?_
            refine At.step hm ht ⟨[], [], [], [0, 2, 4, 8, 9], [0, 1, 2]⟩ 9 ⟨[(0, .one (.c (.d (.sl (.int .u8) b)))), (2, .one (.c (.ptr 0 0))), (4, .one (.c (.d (.int .i64 n_)))), (8, .one (.c (.ptr 1 0))), (9, .one (.c (.d (.int .i64 (IntKind.wrap .i64 (at_ + (IntKind.wrap .i64 (2 + (IntKind.wrap .i64 (b.getD (IntKind.wrap .i64 (at_ + 1)).toNat 0))))))))))], [(2, some ⟨73, 0⟩)], [(0, [.d (.int .u16 t2_0), .d (.int .u16 t2_1), .d (.int .u32 t2_2), .d (.int .u32 t2_3), .d (.int .u8 t2_4), .d (.sl .unit []), .d (.sl .unit [])]), (1, [.d (.int .u16 s_0), .d (.int .u16 s_1), .d (.int .u32 s_2), .d (.int .u32 s_3), .d (.int .u8 s_4), .own 2 (.pair (.int .u8) (.slice (.int .u8))) (s_5 ++ [((b.getD at_.toNat 0), ([] ++ ((b.take (IntKind.wrap .i64 ((IntKind.wrap .i64 (at_ + 2)) + (IntKind.wrap .i64 (b.getD (IntKind.wrap .i64 (at_ + 1)).toNat 0)))).toNat).drop (IntKind.wrap .i64 (at_ + 2)).toNat)))]), .d (.sl .unit [])])], 3⟩ [] (by kernel_rfl) trivial ?_
            exact ih b n_ (IntKind.wrap .i64 (at_ + (IntKind.wrap .i64 (2 + (IntKind.wrap .i64 (b.getD (IntKind.wrap .i64 (at_ + 1)).toNat 0)))))) t2_0 t2_1 t2_2 t2_3 t2_4 s_0 s_1 s_2 s_3 s_4 (s_5 ++ [((b.getD at_.toNat 0), ([] ++ ((b.take (IntKind.wrap .i64 ((IntKind.wrap .i64 (at_ + 2)) + (IntKind.wrap .i64 (b.getD (IntKind.wrap .i64 (at_ + 1)).toNat 0)))).toNat).drop (IntKind.wrap .i64 (at_ + 2)).toNat)))]) w h o hk
    · refine At.step hm ht ⟨[], [false], [], [0, 2, 8, 9], [0, 1, 2]⟩ 15 ⟨[(0, .one (.c (.d (.sl (.int .u8) b)))), (2, .one (.c (.ptr 0 0))), (8, .one (.c (.ptr 1 0))), (9, .one (.c (.d (.int .i64 at_))))], [(2, some ⟨73, 0⟩)], [(0, [.d (.int .u16 t2_0), .d (.int .u16 t2_1), .d (.int .u32 t2_2), .d (.int .u32 t2_3), .d (.int .u8 t2_4), .d (.sl .unit []), .d (.sl .unit [])]), (1, [.d (.int .u16 s_0), .d (.int .u16 s_1), .d (.int .u32 s_2), .d (.int .u32 s_3), .d (.int .u8 s_4), .own 2 (.pair (.int .u8) (.slice (.int .u8))) s_5, .d (.sl .unit [])])], 3⟩ [(decide ((at_ : Int) < (IntKind.wrap .i64 (14 + n_)))) = false] (by kernel_rfl) ⟨b576_e0, trivial⟩ ?_
      have h := Option.some.inj h
      subst h
      exact hk
def f122_broughamref07_Parse (n : Nat) (b : List Int) : Option (Int × Int × Int × Int × Int × Int × (List (Int × List Int)) × List Int) :=
  if (decide ((((b.length : Nat) : Int) : Int) < 14)) = true then
    some (70, 0, 0, 0, 0, 0, [], [])
  else
    if (0 : Int) ≤ 12 ∧ 12 < (((b).length : Nat) : Int) then
    if (decide (((b.getD 12 0) : Int) > 7)) = true then
      some (70, 0, 0, 0, 0, 0, [], [])
    else
      if (0 : Int) ≤ 13 ∧ 13 < (((b).length : Nat) : Int) then
      if (decide (((IntKind.wrap .i64 (b.getD 13 0)) : Int) > 200)) = true then
        some (71, 0, 0, 0, 0, 0, [], [])
      else
        if (decide (((IntKind.wrap .i64 (b.getD 13 0)) : Int) > (IntKind.wrap .i64 (((b.length : Nat) : Int) - 14)))) = true then
          some (71, 0, 0, 0, 0, 0, [], [])
        else
          (f85_broughamref02_All n b [2, 2, 4, 4]).bind fun r573_0 =>
          if (0 : Int) ≤ 0 ∧ 0 < (((r573_0.1).length : Nat) : Int) then
          if (0 : Int) ≤ 1 ∧ 1 < (((r573_0.1).length : Nat) : Int) then
          if (0 : Int) ≤ 2 ∧ 2 < (((r573_0.1).length : Nat) : Int) then
          if (0 : Int) ≤ 3 ∧ 3 < (((r573_0.1).length : Nat) : Int) then
          if (0 : Int) ≤ 12 ∧ 12 < (((b).length : Nat) : Int) then
          (f122_broughamref07_Parse_L9 n b (IntKind.wrap .i64 (b.getD 13 0)) 14 0 0 0 0 0 (IntKind.wrap .u16 (r573_0.1.getD 0 0)) (IntKind.wrap .u16 (r573_0.1.getD 1 0)) (IntKind.wrap .u32 (r573_0.1.getD 2 0)) (IntKind.wrap .u32 (r573_0.1.getD 3 0)) (b.getD 12 0) []).bind fun w584 =>
          match w584 with
          | .inl e585 =>
            some (e585.1, e585.2.1, e585.2.2.1, e585.2.2.2.1, e585.2.2.2.2.1, e585.2.2.2.2.2.1, e585.2.2.2.2.2.2.1, e585.2.2.2.2.2.2.2)
          | .inr e586 =>
            if (decide (((IntKind.wrap .i64 (((e586.1.length : Nat) : Int) - e586.2.1)) : Int) > 1024)) = true then
              some (72, 0, 0, 0, 0, 0, [], [])
            else
              if cutOk e586.1.length (some e586.2.1) none none then
              if ([] : List Int).length + ((e586.1.take e586.1.length).drop e586.2.1.toNat).length ≤ maxLen ∧ (([] : List Int).length + ((e586.1.take e586.1.length).drop e586.2.1.toNat).length) * 1 ≤ 140737488355328 then
              some (0, e586.2.2.2.2.2.2.2.1, e586.2.2.2.2.2.2.2.2.1, e586.2.2.2.2.2.2.2.2.2.1, e586.2.2.2.2.2.2.2.2.2.2.1, e586.2.2.2.2.2.2.2.2.2.2.2.1, e586.2.2.2.2.2.2.2.2.2.2.2.2, ([] ++ ((e586.1.take e586.1.length).drop e586.2.1.toNat)))
              else none
              else none
          else none
          else none
          else none
          else none
          else none
      else none
    else none
theorem f122_broughamref07_Parse_ok (n : Nat) (b : List Int) (r : Int × Int × Int × Int × Int × Int × (List (Int × List Int)) × List Int) (h : f122_broughamref07_Parse n b = some r) : FnOK Go.Proofs.Try.prog 122 (f122_broughamref07_Parse_in b) (f122_broughamref07_Parse_out r) := by
  unfold f122_broughamref07_Parse at h
  refine At.fn (r := 0) Go.Proofs.Try.func122 rfl (by kernel_rfl) rfl rfl (by kernel_rfl) ?_
  show At Go.Proofs.Try.prog Go.Proofs.Try.f122 0 0 ⟨[(0, .one (.c (.d (.sl (.int .u8) b))))], [], [], 0⟩ _
  refine At.step hm ht ⟨[], [], [], [0, 2], [0]⟩ 1 ⟨[(0, .one (.c (.d (.sl (.int .u8) b)))), (2, .one (.c (.ptr 0 0)))], [], [(0, [.d (.int .u16 0), .d (.int .u16 0), .d (.int .u32 0), .d (.int .u32 0), .d (.int .u8 0), .d (.sl .unit []), .d (.sl .unit [])])], 1⟩ [] (by kernel_rfl) trivial ?_
  rcases iteS h with ⟨b566_3, h⟩ | ⟨b566_3, h⟩
  · refine At.step hm ht ⟨[(3, .b true)], [true], [], [2], [0]⟩ 2 ⟨[(2, .one (.c (.ptr 0 0)))], [], [(0, [.d (.int .u16 0), .d (.int .u16 0), .d (.int .u32 0), .d (.int .u32 0), .d (.int .u8 0), .d (.sl .unit []), .d (.sl .unit [])])], 1⟩ [(decide ((((b.length : Nat) : Int) : Int) < 14)) = true, true = true] (by kernel_rfl) ⟨b566_3, rfl, trivial⟩ ?_
    have h := Option.some.inj h
    subst h
    exact At.fin hm ht ⟨[], [], [.nil true 0 5 (.pair (.int .u8) (.slice (.int .u8))) (some 73), .nil true 0 6 (.int .u8) (some 5)], [2, 3], [0, 4, 5]⟩ [0 + 7 ≤ 7] (by kernel_rfl) ⟨(by decide), trivial⟩
  · obtain ⟨g566_0, h⟩ := ifS h
    rcases iteS h with ⟨b566_e0, h⟩ | ⟨b566_e0, h⟩
    · refine At.step hm ht ⟨[(3, .b false)], [true], [], [2], [0]⟩ 2 ⟨[(2, .one (.c (.ptr 0 0)))], [], [(0, [.d (.int .u16 0), .d (.int .u16 0), .d (.int .u32 0), .d (.int .u32 0), .d (.int .u8 0), .d (.sl .unit []), .d (.sl .unit [])])], 1⟩ [(decide ((((b.length : Nat) : Int) : Int) < 14)) = false, (0 : Int) ≤ 12 ∧ 12 < (((b).length : Nat) : Int), (decide (((b.getD 12 0) : Int) > 7)) = true] (by kernel_rfl) ⟨b566_3, g566_0, b566_e0, trivial⟩ ?_
      have h := Option.some.inj h
      subst h
      exact At.fin hm ht ⟨[], [], [.nil true 0 5 (.pair (.int .u8) (.slice (.int .u8))) (some 73), .nil true 0 6 (.int .u8) (some 5)], [2, 3], [0, 4, 5]⟩ [0 + 7 ≤ 7] (by kernel_rfl) ⟨(by decide), trivial⟩
    · refine At.step hm ht ⟨[(3, .b false)], [false], [], [0, 2], [0]⟩ 3 ⟨[(0, .one (.c (.d (.sl (.int .u8) b)))), (2, .one (.c (.ptr 0 0)))], [], [(0, [.d (.int .u16 0), .d (.int .u16 0), .d (.int .u32 0), .d (.int .u32 0), .d (.int .u8 0), .d (.sl .unit []), .d (.sl .unit [])])], 1⟩ [(decide ((((b.length : Nat) : Int) : Int) < 14)) = false, (0 : Int) ≤ 12 ∧ 12 < (((b).length : Nat) : Int), (decide (((b.getD 12 0) : Int) > 7)) = false] (by kernel_rfl) ⟨b566_3, g566_0, b566_e0, trivial⟩ ?_
      obtain ⟨g569_0, h⟩ := ifS h
      refine At.step hm ht ⟨[], [], [], [0, 2, 4], [0]⟩ 4 ⟨[(0, .one (.c (.d (.sl (.int .u8) b)))), (2, .one (.c (.ptr 0 0))), (4, .one (.c (.d (.int .i64 (IntKind.wrap .i64 (b.getD 13 0))))))], [], [(0, [.d (.int .u16 0), .d (.int .u16 0), .d (.int .u32 0), .d (.int .u32 0), .d (.int .u8 0), .d (.sl .unit []), .d (.sl .unit [])])], 1⟩ [(0 : Int) ≤ 13 ∧ 13 < (((b).length : Nat) : Int)] (by kernel_rfl) ⟨g569_0, trivial⟩ ?_
      rcases iteS h with ⟨b570_2, h⟩ | ⟨b570_2, h⟩
      · refine At.step hm ht ⟨[(2, .b true)], [true], [], [2], [0]⟩ 5 ⟨[(2, .one (.c (.ptr 0 0)))], [], [(0, [.d (.int .u16 0), .d (.int .u16 0), .d (.int .u32 0), .d (.int .u32 0), .d (.int .u8 0), .d (.sl .unit []), .d (.sl .unit [])])], 1⟩ [(decide (((IntKind.wrap .i64 (b.getD 13 0)) : Int) > 200)) = true, true = true] (by kernel_rfl) ⟨b570_2, rfl, trivial⟩ ?_
        have h := Option.some.inj h
        subst h
        exact At.fin hm ht ⟨[], [], [.nil true 0 5 (.pair (.int .u8) (.slice (.int .u8))) (some 73), .nil true 0 6 (.int .u8) (some 5)], [2, 3], [0, 4, 5]⟩ [0 + 7 ≤ 7] (by kernel_rfl) ⟨(by decide), trivial⟩
      · rcases iteS h with ⟨b570_e0, h⟩ | ⟨b570_e0, h⟩
        · refine At.step hm ht ⟨[(2, .b false)], [true], [], [2], [0]⟩ 5 ⟨[(2, .one (.c (.ptr 0 0)))], [], [(0, [.d (.int .u16 0), .d (.int .u16 0), .d (.int .u32 0), .d (.int .u32 0), .d (.int .u8 0), .d (.sl .unit []), .d (.sl .unit [])])], 1⟩ [(decide (((IntKind.wrap .i64 (b.getD 13 0)) : Int) > 200)) = false, (decide (((IntKind.wrap .i64 (b.getD 13 0)) : Int) > (IntKind.wrap .i64 (((b.length : Nat) : Int) - 14)))) = true] (by kernel_rfl) ⟨b570_2, b570_e0, trivial⟩ ?_
          have h := Option.some.inj h
          subst h
          exact At.fin hm ht ⟨[], [], [.nil true 0 5 (.pair (.int .u8) (.slice (.int .u8))) (some 73), .nil true 0 6 (.int .u8) (some 5)], [2, 3], [0, 4, 5]⟩ [0 + 7 ≤ 7] (by kernel_rfl) ⟨(by decide), trivial⟩
        · refine At.step hm ht ⟨[(2, .b false)], [false], [], [0, 2, 4], [0]⟩ 6 ⟨[(0, .one (.c (.d (.sl (.int .u8) b)))), (2, .one (.c (.ptr 0 0))), (4, .one (.c (.d (.int .i64 (IntKind.wrap .i64 (b.getD 13 0))))))], [], [(0, [.d (.int .u16 0), .d (.int .u16 0), .d (.int .u32 0), .d (.int .u32 0), .d (.int .u8 0), .d (.sl .unit []), .d (.sl .unit [])])], 1⟩ [(decide (((IntKind.wrap .i64 (b.getD 13 0)) : Int) > 200)) = false, (decide (((IntKind.wrap .i64 (b.getD 13 0)) : Int) > (IntKind.wrap .i64 (((b.length : Nat) : Int) - 14)))) = false] (by kernel_rfl) ⟨b570_2, b570_e0, trivial⟩ ?_
          obtain ⟨r573_0, cr573_0, h⟩ := bindS h
          refine At.step hm ht ⟨[(2, .call [] [] (f85_broughamref02_All_out r573_0))], [], [], [0, 2, 4, 5], [0, 3]⟩ 7 ⟨[(0, .one (.c (.d (.sl (.int .u8) b)))), (2, .one (.c (.ptr 0 0))), (4, .one (.c (.d (.int .i64 (IntKind.wrap .i64 (b.getD 13 0)))))), (5, .one (.c (.own 1 (.int .u64) r573_0.1)))], [(1, some ⟨22, 0⟩)], [(0, [.d (.int .u16 0), .d (.int .u16 0), .d (.int .u32 0), .d (.int .u32 0), .d (.int .u8 0), .d (.sl .unit []), .d (.sl .unit [])])], 2⟩ [FnOK Go.Proofs.Try.prog 85 (f85_broughamref02_All_in b [2, 2, 4, 4]) (f85_broughamref02_All_out r573_0)] (by kernel_rfl) ⟨(f85_broughamref02_All_ok n b [2, 2, 4, 4] r573_0 cr573_0), trivial⟩ ?_
          obtain ⟨g574_0, h⟩ := ifS h
          obtain ⟨g574_1, h⟩ := ifS h
          obtain ⟨g574_2, h⟩ := ifS h
          obtain ⟨g574_3, h⟩ := ifS h
          obtain ⟨g574_4, h⟩ := ifS h
          refine At.step hm ht ⟨[], [], [], [0, 2, 4, 8], [0, 22]⟩ 8 ⟨[(0, .one (.c (.d (.sl (.int .u8) b)))), (2, .one (.c (.ptr 0 0))), (4, .one (.c (.d (.int .i64 (IntKind.wrap .i64 (b.getD 13 0)))))), (8, .one (.c (.ptr 1 0)))], [], [(0, [.d (.int .u16 0), .d (.int .u16 0), .d (.int .u32 0), .d (.int .u32 0), .d (.int .u8 0), .d (.sl .unit []), .d (.sl .unit [])]), (1, [.d (.int .u16 (IntKind.wrap .u16 (r573_0.1.getD 0 0))), .d (.int .u16 (IntKind.wrap .u16 (r573_0.1.getD 1 0))), .d (.int .u32 (IntKind.wrap .u32 (r573_0.1.getD 2 0))), .d (.int .u32 (IntKind.wrap .u32 (r573_0.1.getD 3 0))), .d (.int .u8 (b.getD 12 0)), .d (.sl .unit []), .d (.sl .unit [])])], 2⟩ [(0 : Int) ≤ 0 ∧ 0 < (((r573_0.1).length : Nat) : Int), (0 : Int) ≤ 1 ∧ 1 < (((r573_0.1).length : Nat) : Int), (0 : Int) ≤ 2 ∧ 2 < (((r573_0.1).length : Nat) : Int), (0 : Int) ≤ 3 ∧ 3 < (((r573_0.1).length : Nat) : Int), (0 : Int) ≤ 12 ∧ 12 < (((b).length : Nat) : Int), 0 + 7 ≤ 7] (by kernel_rfl) ⟨g574_0, g574_1, g574_2, g574_3, g574_4, (by decide), trivial⟩ ?_
          refine At.step hm ht ⟨[], [], [.nil true 1 5 (.pair (.int .u8) (.slice (.int .u8))) (some 73)], [0, 2, 4, 8, 9], [0, 1, 3]⟩ 9 ⟨[(0, .one (.c (.d (.sl (.int .u8) b)))), (2, .one (.c (.ptr 0 0))), (4, .one (.c (.d (.int .i64 (IntKind.wrap .i64 (b.getD 13 0)))))), (8, .one (.c (.ptr 1 0))), (9, .one (.c (.d (.int .i64 14))))], [(2, some ⟨73, 0⟩)], [(0, [.d (.int .u16 0), .d (.int .u16 0), .d (.int .u32 0), .d (.int .u32 0), .d (.int .u8 0), .d (.sl .unit []), .d (.sl .unit [])]), (1, [.d (.int .u16 (IntKind.wrap .u16 (r573_0.1.getD 0 0))), .d (.int .u16 (IntKind.wrap .u16 (r573_0.1.getD 1 0))), .d (.int .u32 (IntKind.wrap .u32 (r573_0.1.getD 2 0))), .d (.int .u32 (IntKind.wrap .u32 (r573_0.1.getD 3 0))), .d (.int .u8 (b.getD 12 0)), .own 2 (.pair (.int .u8) (.slice (.int .u8))) [], .d (.sl .unit [])])], 3⟩ [] (by kernel_rfl) trivial ?_
          obtain ⟨w584, cw584, h⟩ := bindS h
          refine f122_broughamref07_Parse_L9_ok n b (IntKind.wrap .i64 (b.getD 13 0)) 14 0 0 0 0 0 (IntKind.wrap .u16 (r573_0.1.getD 0 0)) (IntKind.wrap .u16 (r573_0.1.getD 1 0)) (IntKind.wrap .u32 (r573_0.1.getD 2 0)) (IntKind.wrap .u32 (r573_0.1.getD 3 0)) (b.getD 12 0) [] w584 cw584 _ ?_
          rcases w584 with e585 | e586
          · have h := Option.some.inj h
            subst h
            rfl
          · show At Go.Proofs.Try.prog Go.Proofs.Try.f122 0 15 ⟨[(0, .one (.c (.d (.sl (.int .u8) e586.1)))), (2, .one (.c (.ptr 0 0))), (8, .one (.c (.ptr 1 0))), (9, .one (.c (.d (.int .i64 e586.2.1))))], [(2, some ⟨73, 0⟩)], [(0, [.d (.int .u16 e586.2.2.1), .d (.int .u16 e586.2.2.2.1), .d (.int .u32 e586.2.2.2.2.1), .d (.int .u32 e586.2.2.2.2.2.1), .d (.int .u8 e586.2.2.2.2.2.2.1), .d (.sl .unit []), .d (.sl .unit [])]), (1, [.d (.int .u16 e586.2.2.2.2.2.2.2.1), .d (.int .u16 e586.2.2.2.2.2.2.2.2.1), .d (.int .u32 e586.2.2.2.2.2.2.2.2.2.1), .d (.int .u32 e586.2.2.2.2.2.2.2.2.2.2.1), .d (.int .u8 e586.2.2.2.2.2.2.2.2.2.2.2.1), .own 2 (.pair (.int .u8) (.slice (.int .u8))) e586.2.2.2.2.2.2.2.2.2.2.2.2, .d (.sl .unit [])])], 3⟩ _
            rcases iteS h with ⟨b587_e0, h⟩ | ⟨b587_e0, h⟩
            · refine At.step hm ht ⟨[], [true], [], [2], [0]⟩ 16 ⟨[(2, .one (.c (.ptr 0 0)))], [], [(0, [.d (.int .u16 e586.2.2.1), .d (.int .u16 e586.2.2.2.1), .d (.int .u32 e586.2.2.2.2.1), .d (.int .u32 e586.2.2.2.2.2.1), .d (.int .u8 e586.2.2.2.2.2.2.1), .d (.sl .unit []), .d (.sl .unit [])])], 1⟩ [(decide (((IntKind.wrap .i64 (((e586.1.length : Nat) : Int) - e586.2.1)) : Int) > 1024)) = true] (by kernel_rfl) ⟨b587_e0, trivial⟩ ?_
              have h := Option.some.inj h
              subst h
              exact At.fin hm ht ⟨[], [], [.nil true 0 5 (.pair (.int .u8) (.slice (.int .u8))) (some 73), .nil true 0 6 (.int .u8) (some 5)], [2, 3], [0, 4, 5]⟩ [0 + 7 ≤ 7] (by kernel_rfl) ⟨(by decide), trivial⟩
            · refine At.step hm ht ⟨[], [false], [], [0, 2, 8, 9], [0, 1, 2]⟩ 17 ⟨[(0, .one (.c (.d (.sl (.int .u8) e586.1)))), (2, .one (.c (.ptr 0 0))), (8, .one (.c (.ptr 1 0))), (9, .one (.c (.d (.int .i64 e586.2.1))))], [(2, some ⟨73, 0⟩)], [(0, [.d (.int .u16 e586.2.2.1), .d (.int .u16 e586.2.2.2.1), .d (.int .u32 e586.2.2.2.2.1), .d (.int .u32 e586.2.2.2.2.2.1), .d (.int .u8 e586.2.2.2.2.2.2.1), .d (.sl .unit []), .d (.sl .unit [])]), (1, [.d (.int .u16 e586.2.2.2.2.2.2.2.1), .d (.int .u16 e586.2.2.2.2.2.2.2.2.1), .d (.int .u32 e586.2.2.2.2.2.2.2.2.2.1), .d (.int .u32 e586.2.2.2.2.2.2.2.2.2.2.1), .d (.int .u8 e586.2.2.2.2.2.2.2.2.2.2.2.1), .own 2 (.pair (.int .u8) (.slice (.int .u8))) e586.2.2.2.2.2.2.2.2.2.2.2.2, .d (.sl .unit [])])], 3⟩ [(decide (((IntKind.wrap .i64 (((e586.1.length : Nat) : Int) - e586.2.1)) : Int) > 1024)) = false] (by kernel_rfl) ⟨b587_e0, trivial⟩ ?_
              obtain ⟨g589_0, h⟩ := ifS h
              obtain ⟨g589_1, h⟩ := ifS h
              refine At.step hm ht ⟨[], [], [], [2, 8], [0, 1, 2, 7]⟩ 18 ⟨[(2, .one (.c (.ptr 0 0))), (8, .one (.c (.ptr 1 0)))], [(2, some ⟨73, 0⟩), (3, some ⟨5, 0⟩)], [(0, [.d (.int .u16 e586.2.2.1), .d (.int .u16 e586.2.2.2.1), .d (.int .u32 e586.2.2.2.2.1), .d (.int .u32 e586.2.2.2.2.2.1), .d (.int .u8 e586.2.2.2.2.2.2.1), .d (.sl .unit []), .d (.sl .unit [])]), (1, [.d (.int .u16 e586.2.2.2.2.2.2.2.1), .d (.int .u16 e586.2.2.2.2.2.2.2.2.1), .d (.int .u32 e586.2.2.2.2.2.2.2.2.2.1), .d (.int .u32 e586.2.2.2.2.2.2.2.2.2.2.1), .d (.int .u8 e586.2.2.2.2.2.2.2.2.2.2.2.1), .own 2 (.pair (.int .u8) (.slice (.int .u8))) e586.2.2.2.2.2.2.2.2.2.2.2.2, .own 3 (.int .u8) ([] ++ ((e586.1.take e586.1.length).drop e586.2.1.toNat))])], 4⟩ [cutOk e586.1.length (some e586.2.1) none none, ([] : List Int).length + ((e586.1.take e586.1.length).drop e586.2.1.toNat).length ≤ maxLen ∧ (([] : List Int).length + ((e586.1.take e586.1.length).drop e586.2.1.toNat).length) * 1 ≤ 140737488355328, 6 + 1 ≤ 7] (by kernel_rfl) ⟨g589_0, g589_1, (by decide), trivial⟩ ?_
              have h := Option.some.inj h
              subst h
              exact At.fin hm ht ⟨[], [], [], [2, 3], [0, 2, 3]⟩ [0 + 7 ≤ 7] (by kernel_rfl) ⟨(by decide), trivial⟩
/-! brougham/broughamref26.Bytes -/
def f71_broughamref26_Bytes_in (b : List Int) : Inn := ⟨[.c (.d (.sl (.int .u8) b))], [], [], 0⟩
def f71_broughamref26_Bytes_out (r : ByteArray) : Out := ⟨.one (.c (.d (.str r))), [], [], 0⟩
def f71_broughamref26_Bytes (n : Nat) (b : List Int) : Option (ByteArray) :=
  (f122_broughamref07_Parse n b).bind fun r519_0 =>
  if ((r519_0.1 : Int) != 0) = true then
    (f70_broughamref01_Text n r519_0.1).bind fun r592_0 =>
    if (⟨#[110, 111, 110, 101, 32]⟩ : ByteArray).size + r592_0.size ≤ 9223372036854775807 then
    if ((⟨#[110, 111, 110, 101, 32]⟩ : ByteArray) ++ r592_0).size + (⟨#[32]⟩ : ByteArray).size ≤ 9223372036854775807 then
    (f70_broughamref01_Text n ((b.length : Nat) : Int)).bind fun r592_3 =>
    if (((⟨#[110, 111, 110, 101, 32]⟩ : ByteArray) ++ r592_0) ++ (⟨#[32]⟩ : ByteArray)).size + r592_3.size ≤ 9223372036854775807 then
    some ((((⟨#[110, 111, 110, 101, 32]⟩ : ByteArray) ++ r592_0) ++ (⟨#[32]⟩ : ByteArray)) ++ r592_3)
    else none
    else none
    else none
  else
    (f66_broughamref26_Segment n r519_0.2.1 r519_0.2.2.1 r519_0.2.2.2.1 r519_0.2.2.2.2.1 r519_0.2.2.2.2.2.1 r519_0.2.2.2.2.2.2.1 r519_0.2.2.2.2.2.2.2).bind fun r593_0 =>
    some r593_0
theorem f71_broughamref26_Bytes_ok (n : Nat) (b : List Int) (r : ByteArray) (h : f71_broughamref26_Bytes n b = some r) : FnOK Go.Proofs.Try.prog 71 (f71_broughamref26_Bytes_in b) (f71_broughamref26_Bytes_out r) := by
  unfold f71_broughamref26_Bytes at h
  refine At.fn (r := 0) Go.Proofs.Try.func71 rfl (by kernel_rfl) rfl rfl (by kernel_rfl) ?_
  show At Go.Proofs.Try.prog Go.Proofs.Try.f71 0 0 ⟨[(0, .one (.c (.d (.sl (.int .u8) b))))], [], [], 0⟩ _
  refine At.step hm ht ⟨[], [], [], [0], []⟩ 1 ⟨[(0, .one (.c (.d (.sl (.int .u8) b))))], [], [], 0⟩ [] (by kernel_rfl) trivial ?_
  obtain ⟨r519_0, cr519_0, h⟩ := bindS h
  refine At.step hm ht ⟨[(1, .call [] [] (f122_broughamref07_Parse_out r519_0))], [], [], [0, 3, 4], [7, 2, 3]⟩ 2 ⟨[(0, .one (.c (.d (.sl (.int .u8) b)))), (3, .one (.c (.ptr 0 0))), (4, .one (.c (.d (.int .i64 r519_0.1))))], [(1, some ⟨73, 0⟩), (2, some ⟨5, 0⟩)], [(0, [.d (.int .u16 r519_0.2.1), .d (.int .u16 r519_0.2.2.1), .d (.int .u32 r519_0.2.2.2.1), .d (.int .u32 r519_0.2.2.2.2.1), .d (.int .u8 r519_0.2.2.2.2.2.1), .own 1 (.pair (.int .u8) (.slice (.int .u8))) r519_0.2.2.2.2.2.2.1, .own 2 (.int .u8) r519_0.2.2.2.2.2.2.2])], 3⟩ [FnOK Go.Proofs.Try.prog 122 (f122_broughamref07_Parse_in b) (f122_broughamref07_Parse_out r519_0), 0 + 7 ≤ 7] (by kernel_rfl) ⟨(f122_broughamref07_Parse_ok n b r519_0 cr519_0), (by decide), trivial⟩ ?_
  rcases iteS h with ⟨b591_e0, h⟩ | ⟨b591_e0, h⟩
  · refine At.step hm ht ⟨[], [true], [], [0, 4], []⟩ 3 ⟨[(0, .one (.c (.d (.sl (.int .u8) b)))), (4, .one (.c (.d (.int .i64 r519_0.1))))], [], [], 0⟩ [((r519_0.1 : Int) != 0) = true] (by kernel_rfl) ⟨b591_e0, trivial⟩ ?_
    obtain ⟨r592_0, cr592_0, h⟩ := bindS h
    obtain ⟨g592_1, h⟩ := ifS h
    obtain ⟨g592_2, h⟩ := ifS h
    obtain ⟨r592_3, cr592_3, h⟩ := bindS h
    obtain ⟨g592_4, h⟩ := ifS h
    have h := Option.some.inj h
    subst h
    exact At.fin hm ht ⟨[(1, .call [] [] (f70_broughamref01_Text_out r592_0)), (6, .call [] [] (f70_broughamref01_Text_out r592_3))], [], [], [2], []⟩ [FnOK Go.Proofs.Try.prog 70 (f70_broughamref01_Text_in r519_0.1) (f70_broughamref01_Text_out r592_0), (⟨#[110, 111, 110, 101, 32]⟩ : ByteArray).size + r592_0.size ≤ 9223372036854775807, ((⟨#[110, 111, 110, 101, 32]⟩ : ByteArray) ++ r592_0).size + (⟨#[32]⟩ : ByteArray).size ≤ 9223372036854775807, FnOK Go.Proofs.Try.prog 70 (f70_broughamref01_Text_in ((b.length : Nat) : Int)) (f70_broughamref01_Text_out r592_3), (((⟨#[110, 111, 110, 101, 32]⟩ : ByteArray) ++ r592_0) ++ (⟨#[32]⟩ : ByteArray)).size + r592_3.size ≤ 9223372036854775807] (by kernel_rfl) ⟨(f70_broughamref01_Text_ok n r519_0.1 r592_0 cr592_0), g592_1, g592_2, (f70_broughamref01_Text_ok n ((b.length : Nat) : Int) r592_3 cr592_3), g592_4, trivial⟩
  · refine At.step hm ht ⟨[], [false], [], [3], [0, 1, 2]⟩ 4 ⟨[(3, .one (.c (.ptr 0 0)))], [(1, some ⟨73, 0⟩), (2, some ⟨5, 0⟩)], [(0, [.d (.int .u16 r519_0.2.1), .d (.int .u16 r519_0.2.2.1), .d (.int .u32 r519_0.2.2.2.1), .d (.int .u32 r519_0.2.2.2.2.1), .d (.int .u8 r519_0.2.2.2.2.2.1), .own 1 (.pair (.int .u8) (.slice (.int .u8))) r519_0.2.2.2.2.2.2.1, .own 2 (.int .u8) r519_0.2.2.2.2.2.2.2])], 3⟩ [((r519_0.1 : Int) != 0) = false] (by kernel_rfl) ⟨b591_e0, trivial⟩ ?_
    obtain ⟨r593_0, cr593_0, h⟩ := bindS h
    have h := Option.some.inj h
    subst h
    exact At.fin hm ht ⟨[(1, .call [] [] (f66_broughamref26_Segment_out r593_0))], [], [], [2], []⟩ [FnOK Go.Proofs.Try.prog 66 (f66_broughamref26_Segment_in r519_0.2.1 r519_0.2.2.1 r519_0.2.2.2.1 r519_0.2.2.2.2.1 r519_0.2.2.2.2.2.1 r519_0.2.2.2.2.2.2.1 r519_0.2.2.2.2.2.2.2) (f66_broughamref26_Segment_out r593_0)] (by kernel_rfl) ⟨(f66_broughamref26_Segment_ok n r519_0.2.1 r519_0.2.2.1 r519_0.2.2.2.1 r519_0.2.2.2.2.1 r519_0.2.2.2.2.2.1 r519_0.2.2.2.2.2.2.1 r519_0.2.2.2.2.2.2.2 r593_0 cr593_0), trivial⟩
/-! brougham/trace.Packets -/
def f73_trace_Packets_in (l : List (Int × List Int)) : Inn := ⟨[.c (.d (.sl (.pair (.int .i64) (.slice (.int .u8))) l))], [], [], 0⟩
def f73_trace_Packets_out (r : ByteArray) : Out := ⟨.one (.c (.d (.str r))), [], [], 0⟩
def f73_trace_Packets_L3 : Nat → ByteArray → (List (Int × List Int)) → Int → Int → Option (ByteArray)
  | 0, _, _, _, _ => none
  | n + 1, out, t6, t7, t8 =>
    if (decide ((t8 : Int) < t7)) = true then
      if (0 : Int) ≤ t8 ∧ t8 < (((t6).length : Nat) : Int) then
      (f102_num_Text ((t6.getD t8.toNat (0, [])).1)).bind fun r604_0 =>
      (f72_trace_Bytes n ((t6.getD t8.toNat (0, [])).2)).bind fun r604_1 =>
      (f101_num_Line n [(⟨#[112, 97, 116, 104]⟩ : ByteArray), r604_0, r604_1]).bind fun r604_2 =>
      if r604_2.size + (⟨#[10]⟩ : ByteArray).size ≤ 9223372036854775807 then
      if out.size + (r604_2 ++ (⟨#[10]⟩ : ByteArray)).size ≤ 9223372036854775807 then
      f73_trace_Packets_L3 n (out ++ (r604_2 ++ (⟨#[10]⟩ : ByteArray))) t6 t7 (IntKind.wrap .i64 (t8 + 1))
      else none
      else none
      else none
    else
      some (out)
def f73_trace_Packets_L3_k (e : ByteArray) (o : Out) : Prop := At Go.Proofs.Try.prog Go.Proofs.Try.f73 0 7 ⟨[(3, .one (.c (.d (.str e))))], [], [], 0⟩ o
theorem f73_trace_Packets_L3_ok (n : Nat) : ∀ (out : ByteArray) (t6 : List (Int × List Int)) (t7 : Int) (t8 : Int) (w : ByteArray) (h : f73_trace_Packets_L3 n out t6 t7 t8 = some w) (o : Out) (hk : f73_trace_Packets_L3_k w o), At Go.Proofs.Try.prog Go.Proofs.Try.f73 0 3 ⟨[(3, .one (.c (.d (.str out)))), (6, .one (.c (.d (.sl (.pair (.int .i64) (.slice (.int .u8))) t6)))), (7, .one (.c (.d (.int .i64 t7)))), (8, .one (.c (.d (.int .i64 t8))))], [], [], 0⟩ o := by
  induction n with
  | zero => intro out t6 t7 t8 w h; rw [f73_trace_Packets_L3] at h; cases h
  | succ n ih =>
    intro out t6 t7 t8 w h o hk
    rw [f73_trace_Packets_L3] at h
    rcases iteS h with ⟨b602_e0, h⟩ | ⟨b602_e0, h⟩
    · refine At.step hm ht ⟨[], [true], [], [3, 6, 7, 8], []⟩ 4 ⟨[(3, .one (.c (.d (.str out)))), (6, .one (.c (.d (.sl (.pair (.int .i64) (.slice (.int .u8))) t6)))), (7, .one (.c (.d (.int .i64 t7)))), (8, .one (.c (.d (.int .i64 t8))))], [], [], 0⟩ [(decide ((t8 : Int) < t7)) = true] (by kernel_rfl) ⟨b602_e0, trivial⟩ ?_
      obtain ⟨g603_0, h⟩ := ifS h
      refine At.step hm ht ⟨[], [], [], [3, 5, 6, 7, 8], [2]⟩ 5 ⟨[(3, .one (.c (.d (.str out)))), (5, .one (.c (.ptr 0 0))), (6, .one (.c (.d (.sl (.pair (.int .i64) (.slice (.int .u8))) t6)))), (7, .one (.c (.d (.int .i64 t7)))), (8, .one (.c (.d (.int .i64 t8))))], [], [(0, [.d (.int .i64 ((t6.getD t8.toNat (0, [])).1)), .d (.sl (.int .u8) ((t6.getD t8.toNat (0, [])).2))])], 1⟩ [(0 : Int) ≤ t8 ∧ t8 < (((t6).length : Nat) : Int), 0 + 2 ≤ 2] (by kernel_rfl) ⟨g603_0, (by decide), trivial⟩ ?_
      obtain ⟨r604_0, cr604_0, h⟩ := bindS h
      obtain ⟨r604_1, cr604_1, h⟩ := bindS h
      obtain ⟨r604_2, cr604_2, h⟩ := bindS h
      obtain ⟨g604_3, h⟩ := ifS h
      obtain ⟨g604_4, h⟩ := ifS h
      refine At.step hm ht ⟨[(3, .call [] [] (f102_num_Text_out r604_0)), (6, .call [] [] (f72_trace_Bytes_out r604_1)), (8, .call [] [] (f101_num_Line_out r604_2))], [], [], [3, 6, 7, 8], []⟩ 6 ⟨[(3, .one (.c (.d (.str (out ++ (r604_2 ++ (⟨#[10]⟩ : ByteArray))))))), (6, .one (.c (.d (.sl (.pair (.int .i64) (.slice (.int .u8))) t6)))), (7, .one (.c (.d (.int .i64 t7)))), (8, .one (.c (.d (.int .i64 t8))))], [], [], 0⟩ [FnOK Go.Proofs.Try.prog 102 (f102_num_Text_in ((t6.getD t8.toNat (0, [])).1)) (f102_num_Text_out r604_0), FnOK Go.Proofs.Try.prog 72 (f72_trace_Bytes_in ((t6.getD t8.toNat (0, [])).2)) (f72_trace_Bytes_out r604_1), FnOK Go.Proofs.Try.prog 101 (f101_num_Line_in [(⟨#[112, 97, 116, 104]⟩ : ByteArray), r604_0, r604_1]) (f101_num_Line_out r604_2), r604_2.size + (⟨#[10]⟩ : ByteArray).size ≤ 9223372036854775807, out.size + (r604_2 ++ (⟨#[10]⟩ : ByteArray)).size ≤ 9223372036854775807] (by kernel_rfl) ⟨(f102_num_Text_ok ((t6.getD t8.toNat (0, [])).1) r604_0 cr604_0), (f72_trace_Bytes_ok n ((t6.getD t8.toNat (0, [])).2) r604_1 cr604_1), (f101_num_Line_ok n [(⟨#[112, 97, 116, 104]⟩ : ByteArray), r604_0, r604_1] r604_2 cr604_2), g604_3, g604_4, trivial⟩ ?_
      refine At.step hm ht ⟨[], [], [], [3, 6, 7, 8], []⟩ 3 ⟨[(3, .one (.c (.d (.str (out ++ (r604_2 ++ (⟨#[10]⟩ : ByteArray))))))), (6, .one (.c (.d (.sl (.pair (.int .i64) (.slice (.int .u8))) t6)))), (7, .one (.c (.d (.int .i64 t7)))), (8, .one (.c (.d (.int .i64 (IntKind.wrap .i64 (t8 + 1))))))], [], [], 0⟩ [] (by kernel_rfl) trivial ?_
      exact ih (out ++ (r604_2 ++ (⟨#[10]⟩ : ByteArray))) t6 t7 (IntKind.wrap .i64 (t8 + 1)) w h o hk
    · refine At.step hm ht ⟨[], [false], [], [3], []⟩ 7 ⟨[(3, .one (.c (.d (.str out))))], [], [], 0⟩ [(decide ((t8 : Int) < t7)) = false] (by kernel_rfl) ⟨b602_e0, trivial⟩ ?_
      have h := Option.some.inj h
      subst h
      exact hk
def f73_trace_Packets (n : Nat) (l : List (Int × List Int)) : Option (ByteArray) :=
  (f73_trace_Packets_L3 n (⟨#[]⟩ : ByteArray) l ((l.length : Nat) : Int) 0).bind fun w606 =>
  some w606
theorem f73_trace_Packets_ok (n : Nat) (l : List (Int × List Int)) (r : ByteArray) (h : f73_trace_Packets n l = some r) : FnOK Go.Proofs.Try.prog 73 (f73_trace_Packets_in l) (f73_trace_Packets_out r) := by
  unfold f73_trace_Packets at h
  refine At.fn (r := 0) Go.Proofs.Try.func73 rfl (by kernel_rfl) rfl rfl (by kernel_rfl) ?_
  show At Go.Proofs.Try.prog Go.Proofs.Try.f73 0 0 ⟨[(0, .one (.c (.d (.sl (.pair (.int .i64) (.slice (.int .u8))) l))))], [], [], 0⟩ _
  refine At.step hm ht ⟨[], [], [], [0], []⟩ 1 ⟨[(0, .one (.c (.d (.sl (.pair (.int .i64) (.slice (.int .u8))) l))))], [], [], 0⟩ [] (by kernel_rfl) trivial ?_
  refine At.step hm ht ⟨[], [], [], [0, 3], []⟩ 2 ⟨[(0, .one (.c (.d (.sl (.pair (.int .i64) (.slice (.int .u8))) l)))), (3, .one (.c (.d (.str (⟨#[]⟩ : ByteArray)))))], [], [], 0⟩ [] (by kernel_rfl) trivial ?_
  refine At.step hm ht ⟨[], [], [], [3, 6, 7, 8], []⟩ 3 ⟨[(3, .one (.c (.d (.str (⟨#[]⟩ : ByteArray))))), (6, .one (.c (.d (.sl (.pair (.int .i64) (.slice (.int .u8))) l)))), (7, .one (.c (.d (.int .i64 ((l.length : Nat) : Int))))), (8, .one (.c (.d (.int .i64 0))))], [], [], 0⟩ [] (by kernel_rfl) trivial ?_
  obtain ⟨w606, cw606, h⟩ := bindS h
  refine f73_trace_Packets_L3_ok n (⟨#[]⟩ : ByteArray) l ((l.length : Nat) : Int) 0 w606 cw606 _ ?_
  show At Go.Proofs.Try.prog Go.Proofs.Try.f73 0 7 ⟨[(3, .one (.c (.d (.str w606))))], [], [], 0⟩ _
  have h := Option.some.inj h
  subst h
  exact At.fin hm ht ⟨[], [], [], [2], []⟩ [] (by kernel_rfl) trivial
/-! brougham/broughamlaw26.TraceBytes -/
def f14_broughamlaw26_TraceBytes_in (b : List Int) (l : List (Int × List Int)) : Inn := ⟨[.c (.d (.sl (.int .u8) b)), .c (.d (.sl (.pair (.int .i64) (.slice (.int .u8))) l))], [], [], 0⟩
def f14_broughamlaw26_TraceBytes_out (r : Bool) : Out := ⟨.one (.c (.d (.bool r))), [], [], 0⟩
def f14_broughamlaw26_TraceBytes_L5 : Nat → (List Int) → (List (Int × List Int)) → ByteArray → Int → Option ((Bool) ⊕ (List Int × (List (Int × List Int)) × ByteArray))
  | 0, _, _, _, _ => none
  | n + 1, b, l, want, i =>
    if (decide ((i : Int) < ((l.length : Nat) : Int))) = true then
      if (0 : Int) ≤ i ∧ i < (((l).length : Nat) : Int) then
      if (decide ((((((l.getD i.toNat (0, [])).2).length : Nat) : Int) : Int) > 300)) = true then
        some (.inl true)
      else
        if (0 : Int) ≤ i ∧ i < (((l).length : Nat) : Int) then
        (f70_broughamref01_Text n ((l.getD i.toNat (0, [])).1)).bind fun r517_1 =>
        if (⟨#[112, 97, 116, 104, 32]⟩ : ByteArray).size + r517_1.size ≤ 9223372036854775807 then
        if ((⟨#[112, 97, 116, 104, 32]⟩ : ByteArray) ++ r517_1).size + (⟨#[32]⟩ : ByteArray).size ≤ 9223372036854775807 then
        if (0 : Int) ≤ i ∧ i < (((l).length : Nat) : Int) then
        (f71_broughamref26_Bytes n ((l.getD i.toNat (0, [])).2)).bind fun r517_5 =>
        if (((⟨#[112, 97, 116, 104, 32]⟩ : ByteArray) ++ r517_1) ++ (⟨#[32]⟩ : ByteArray)).size + r517_5.size ≤ 9223372036854775807 then
        if ((((⟨#[112, 97, 116, 104, 32]⟩ : ByteArray) ++ r517_1) ++ (⟨#[32]⟩ : ByteArray)) ++ r517_5).size + (⟨#[10]⟩ : ByteArray).size ≤ 9223372036854775807 then
        if want.size + (((((⟨#[112, 97, 116, 104, 32]⟩ : ByteArray) ++ r517_1) ++ (⟨#[32]⟩ : ByteArray)) ++ r517_5) ++ (⟨#[10]⟩ : ByteArray)).size ≤ 9223372036854775807 then
        f14_broughamlaw26_TraceBytes_L5 n b l (want ++ (((((⟨#[112, 97, 116, 104, 32]⟩ : ByteArray) ++ r517_1) ++ (⟨#[32]⟩ : ByteArray)) ++ r517_5) ++ (⟨#[10]⟩ : ByteArray))) (IntKind.wrap .i64 (i + 1))
        else none
        else none
        else none
        else none
        else none
        else none
        else none
      else none
    else
      some (.inr ((b, l, want)))
def f14_broughamlaw26_TraceBytes_L5_k (w : (Bool) ⊕ (List Int × (List (Int × List Int)) × ByteArray)) (o : Out) : Prop := match w with
  | .inl e => o = f14_broughamlaw26_TraceBytes_out e
  | .inr e => At Go.Proofs.Try.prog Go.Proofs.Try.f14 0 10 ⟨[(0, .one (.c (.d (.sl (.int .u8) e.1)))), (1, .one (.c (.d (.sl (.pair (.int .i64) (.slice (.int .u8))) e.2.1)))), (5, .one (.c (.d (.str e.2.2))))], [], [], 0⟩ o
theorem f14_broughamlaw26_TraceBytes_L5_ok (n : Nat) : ∀ (b : List Int) (l : List (Int × List Int)) (want : ByteArray) (i : Int) (w : (Bool) ⊕ (List Int × (List (Int × List Int)) × ByteArray)) (h : f14_broughamlaw26_TraceBytes_L5 n b l want i = some w) (o : Out) (hk : f14_broughamlaw26_TraceBytes_L5_k w o), At Go.Proofs.Try.prog Go.Proofs.Try.f14 0 5 ⟨[(0, .one (.c (.d (.sl (.int .u8) b)))), (1, .one (.c (.d (.sl (.pair (.int .i64) (.slice (.int .u8))) l)))), (5, .one (.c (.d (.str want)))), (6, .one (.c (.d (.int .i64 i))))], [], [], 0⟩ o := by
  induction n with
  | zero => intro b l want i w h; rw [f14_broughamlaw26_TraceBytes_L5] at h; cases h
  | succ n ih =>
    intro b l want i w h o hk
    rw [f14_broughamlaw26_TraceBytes_L5] at h
    rcases iteS h with ⟨b514_e0, h⟩ | ⟨b514_e0, h⟩
    · refine At.step hm ht ⟨[], [true], [], [0, 1, 5, 6], []⟩ 7 ⟨[(0, .one (.c (.d (.sl (.int .u8) b)))), (1, .one (.c (.d (.sl (.pair (.int .i64) (.slice (.int .u8))) l)))), (5, .one (.c (.d (.str want)))), (6, .one (.c (.d (.int .i64 i))))], [], [], 0⟩ [(decide ((i : Int) < ((l.length : Nat) : Int))) = true] (by kernel_rfl) ⟨b514_e0, trivial⟩ ?_
      obtain ⟨g515_0, h⟩ := ifS h
      rcases iteS h with ⟨b515_e0, h⟩ | ⟨b515_e0, h⟩
      · refine At.step hm ht ⟨[], [true], [], [], []⟩ 8 ⟨[], [], [], 0⟩ [(0 : Int) ≤ i ∧ i < (((l).length : Nat) : Int), (decide ((((((l.getD i.toNat (0, [])).2).length : Nat) : Int) : Int) > 300)) = true] (by kernel_rfl) ⟨g515_0, b515_e0, trivial⟩ ?_
        have h := Option.some.inj h
        subst h
        have hk : o = f14_broughamlaw26_TraceBytes_out true := hk
        subst hk
        exact At.fin hm ht ⟨[], [], [], [4], []⟩ [] (by kernel_rfl) trivial
      · refine At.step hm ht ⟨[], [false], [], [0, 1, 5, 6], []⟩ 9 ⟨[(0, .one (.c (.d (.sl (.int .u8) b)))), (1, .one (.c (.d (.sl (.pair (.int .i64) (.slice (.int .u8))) l)))), (5, .one (.c (.d (.str want)))), (6, .one (.c (.d (.int .i64 i))))], [], [], 0⟩ [(0 : Int) ≤ i ∧ i < (((l).length : Nat) : Int), (decide ((((((l.getD i.toNat (0, [])).2).length : Nat) : Int) : Int) > 300)) = false] (by kernel_rfl) ⟨g515_0, b515_e0, trivial⟩ ?_
        obtain ⟨g517_0, h⟩ := ifS h
        obtain ⟨r517_1, cr517_1, h⟩ := bindS h
        obtain ⟨g517_2, h⟩ := ifS h
        obtain ⟨g517_3, h⟩ := ifS h
        obtain ⟨g517_4, h⟩ := ifS h
        obtain ⟨r517_5, cr517_5, h⟩ := bindS h
        obtain ⟨g517_6, h⟩ := ifS h
        obtain ⟨g517_7, h⟩ := ifS h
        obtain ⟨g517_8, h⟩ := ifS h
        refine At.step hm ht ⟨[(6, .call [] [] (f70_broughamref01_Text_out r517_1)), (14, .call [] [] (f71_broughamref26_Bytes_out r517_5))], [], [], [0, 1, 5, 6], []⟩ 6 ⟨[(0, .one (.c (.d (.sl (.int .u8) b)))), (1, .one (.c (.d (.sl (.pair (.int .i64) (.slice (.int .u8))) l)))), (5, .one (.c (.d (.str (want ++ (((((⟨#[112, 97, 116, 104, 32]⟩ : ByteArray) ++ r517_1) ++ (⟨#[32]⟩ : ByteArray)) ++ r517_5) ++ (⟨#[10]⟩ : ByteArray))))))), (6, .one (.c (.d (.int .i64 i))))], [], [], 0⟩ [(0 : Int) ≤ i ∧ i < (((l).length : Nat) : Int), FnOK Go.Proofs.Try.prog 70 (f70_broughamref01_Text_in ((l.getD i.toNat (0, [])).1)) (f70_broughamref01_Text_out r517_1), (⟨#[112, 97, 116, 104, 32]⟩ : ByteArray).size + r517_1.size ≤ 9223372036854775807, ((⟨#[112, 97, 116, 104, 32]⟩ : ByteArray) ++ r517_1).size + (⟨#[32]⟩ : ByteArray).size ≤ 9223372036854775807, (0 : Int) ≤ i ∧ i < (((l).length : Nat) : Int), FnOK Go.Proofs.Try.prog 71 (f71_broughamref26_Bytes_in ((l.getD i.toNat (0, [])).2)) (f71_broughamref26_Bytes_out r517_5), (((⟨#[112, 97, 116, 104, 32]⟩ : ByteArray) ++ r517_1) ++ (⟨#[32]⟩ : ByteArray)).size + r517_5.size ≤ 9223372036854775807, ((((⟨#[112, 97, 116, 104, 32]⟩ : ByteArray) ++ r517_1) ++ (⟨#[32]⟩ : ByteArray)) ++ r517_5).size + (⟨#[10]⟩ : ByteArray).size ≤ 9223372036854775807, want.size + (((((⟨#[112, 97, 116, 104, 32]⟩ : ByteArray) ++ r517_1) ++ (⟨#[32]⟩ : ByteArray)) ++ r517_5) ++ (⟨#[10]⟩ : ByteArray)).size ≤ 9223372036854775807] (by kernel_rfl) ⟨g517_0, (f70_broughamref01_Text_ok n ((l.getD i.toNat (0, [])).1) r517_1 cr517_1), g517_2, g517_3, g517_4, (f71_broughamref26_Bytes_ok n ((l.getD i.toNat (0, [])).2) r517_5 cr517_5), g517_6, g517_7, g517_8, trivial⟩ ?_
        refine At.step hm ht ⟨[], [], [], [0, 1, 5, 6], []⟩ 5 ⟨[(0, .one (.c (.d (.sl (.int .u8) b)))), (1, .one (.c (.d (.sl (.pair (.int .i64) (.slice (.int .u8))) l)))), (5, .one (.c (.d (.str (want ++ (((((⟨#[112, 97, 116, 104, 32]⟩ : ByteArray) ++ r517_1) ++ (⟨#[32]⟩ : ByteArray)) ++ r517_5) ++ (⟨#[10]⟩ : ByteArray))))))), (6, .one (.c (.d (.int .i64 (IntKind.wrap .i64 (i + 1))))))], [], [], 0⟩ [] (by kernel_rfl) trivial ?_
        exact ih b l (want ++ (((((⟨#[112, 97, 116, 104, 32]⟩ : ByteArray) ++ r517_1) ++ (⟨#[32]⟩ : ByteArray)) ++ r517_5) ++ (⟨#[10]⟩ : ByteArray))) (IntKind.wrap .i64 (i + 1)) w h o hk
    · refine At.step hm ht ⟨[], [false], [], [0, 1, 5], []⟩ 10 ⟨[(0, .one (.c (.d (.sl (.int .u8) b)))), (1, .one (.c (.d (.sl (.pair (.int .i64) (.slice (.int .u8))) l)))), (5, .one (.c (.d (.str want))))], [], [], 0⟩ [(decide ((i : Int) < ((l.length : Nat) : Int))) = false] (by kernel_rfl) ⟨b514_e0, trivial⟩ ?_
      have h := Option.some.inj h
      subst h
      exact hk
def f14_broughamlaw26_TraceBytes (n : Nat) (b : List Int) (l : List (Int × List Int)) : Option (Bool) :=
  if (decide ((((b.length : Nat) : Int) : Int) > 3000)) = true then
    some true
  else
    if (decide ((((l.length : Nat) : Int) : Int) > 20)) = true then
      some true
    else
      (f14_broughamlaw26_TraceBytes_L5 n b l (⟨#[]⟩ : ByteArray) 0).bind fun w595 =>
      match w595 with
      | .inl e596 =>
        some e596
      | .inr e597 =>
        (f72_trace_Bytes n e597.1).bind fun r598_0 =>
        (f71_broughamref26_Bytes n e597.1).bind fun r598_1 =>
        if (r598_0.toList == r598_1.toList) = true then
          (f73_trace_Packets n e597.2.1).bind fun r598_2 =>
          if (r598_2.toList == e597.2.2.toList) = true then
            (f69_broughamlaw26_alive n).bind fun r598_3 =>
            some r598_3
          else
            some false
        else
          some false
theorem f14_broughamlaw26_TraceBytes_ok (n : Nat) (b : List Int) (l : List (Int × List Int)) (r : Bool) (h : f14_broughamlaw26_TraceBytes n b l = some r) : FnOK Go.Proofs.Try.prog 14 (f14_broughamlaw26_TraceBytes_in b l) (f14_broughamlaw26_TraceBytes_out r) := by
  unfold f14_broughamlaw26_TraceBytes at h
  refine At.fn (r := 0) Go.Proofs.Try.func14 rfl (by kernel_rfl) rfl rfl (by kernel_rfl) ?_
  show At Go.Proofs.Try.prog Go.Proofs.Try.f14 0 0 ⟨[(0, .one (.c (.d (.sl (.int .u8) b)))), (1, .one (.c (.d (.sl (.pair (.int .i64) (.slice (.int .u8))) l))))], [], [], 0⟩ _
  refine At.step hm ht ⟨[], [], [], [0, 1], []⟩ 1 ⟨[(0, .one (.c (.d (.sl (.int .u8) b)))), (1, .one (.c (.d (.sl (.pair (.int .i64) (.slice (.int .u8))) l))))], [], [], 0⟩ [] (by kernel_rfl) trivial ?_
  rcases iteS h with ⟨b509_3, h⟩ | ⟨b509_3, h⟩
  · refine At.step hm ht ⟨[(3, .b true)], [true], [], [], []⟩ 2 ⟨[], [], [], 0⟩ [(decide ((((b.length : Nat) : Int) : Int) > 3000)) = true, true = true] (by kernel_rfl) ⟨b509_3, rfl, trivial⟩ ?_
    have h := Option.some.inj h
    subst h
    exact At.fin hm ht ⟨[], [], [], [4], []⟩ [] (by kernel_rfl) trivial
  · rcases iteS h with ⟨b509_e0, h⟩ | ⟨b509_e0, h⟩
    · refine At.step hm ht ⟨[(3, .b false)], [true], [], [], []⟩ 2 ⟨[], [], [], 0⟩ [(decide ((((b.length : Nat) : Int) : Int) > 3000)) = false, (decide ((((l.length : Nat) : Int) : Int) > 20)) = true] (by kernel_rfl) ⟨b509_3, b509_e0, trivial⟩ ?_
      have h := Option.some.inj h
      subst h
      exact At.fin hm ht ⟨[], [], [], [4], []⟩ [] (by kernel_rfl) trivial
    · refine At.step hm ht ⟨[(3, .b false)], [false], [], [0, 1], []⟩ 3 ⟨[(0, .one (.c (.d (.sl (.int .u8) b)))), (1, .one (.c (.d (.sl (.pair (.int .i64) (.slice (.int .u8))) l))))], [], [], 0⟩ [(decide ((((b.length : Nat) : Int) : Int) > 3000)) = false, (decide ((((l.length : Nat) : Int) : Int) > 20)) = false] (by kernel_rfl) ⟨b509_3, b509_e0, trivial⟩ ?_
      refine At.step hm ht ⟨[], [], [], [0, 1, 5], []⟩ 4 ⟨[(0, .one (.c (.d (.sl (.int .u8) b)))), (1, .one (.c (.d (.sl (.pair (.int .i64) (.slice (.int .u8))) l)))), (5, .one (.c (.d (.str (⟨#[]⟩ : ByteArray)))))], [], [], 0⟩ [] (by kernel_rfl) trivial ?_
      refine At.step hm ht ⟨[], [], [], [0, 1, 5, 6], []⟩ 5 ⟨[(0, .one (.c (.d (.sl (.int .u8) b)))), (1, .one (.c (.d (.sl (.pair (.int .i64) (.slice (.int .u8))) l)))), (5, .one (.c (.d (.str (⟨#[]⟩ : ByteArray))))), (6, .one (.c (.d (.int .i64 0))))], [], [], 0⟩ [] (by kernel_rfl) trivial ?_
      obtain ⟨w595, cw595, h⟩ := bindS h
      refine f14_broughamlaw26_TraceBytes_L5_ok n b l (⟨#[]⟩ : ByteArray) 0 w595 cw595 _ ?_
      rcases w595 with e596 | e597
      · have h := Option.some.inj h
        subst h
        rfl
      · show At Go.Proofs.Try.prog Go.Proofs.Try.f14 0 10 ⟨[(0, .one (.c (.d (.sl (.int .u8) e597.1)))), (1, .one (.c (.d (.sl (.pair (.int .i64) (.slice (.int .u8))) e597.2.1)))), (5, .one (.c (.d (.str e597.2.2))))], [], [], 0⟩ _
        obtain ⟨r598_0, cr598_0, h⟩ := bindS h
        obtain ⟨r598_1, cr598_1, h⟩ := bindS h
        rcases iteS h with ⟨b598_5, h⟩ | ⟨b598_5, h⟩
        · obtain ⟨r598_2, cr598_2, h⟩ := bindS h
          rcases iteS h with ⟨b598_11, h⟩ | ⟨b598_11, h⟩
          · obtain ⟨r598_3, cr598_3, h⟩ := bindS h
            have h := Option.some.inj h
            subst h
            exact At.fin hm ht ⟨[(1, .call [] [] (f72_trace_Bytes_out r598_0)), (3, .call [] [] (f71_broughamref26_Bytes_out r598_1)), (5, .b true), (7, .call [] [] (f73_trace_Packets_out r598_2)), (11, .b true), (12, .call [] [] (f69_broughamlaw26_alive_out r598_3))], [], [], [4], []⟩ [FnOK Go.Proofs.Try.prog 72 (f72_trace_Bytes_in e597.1) (f72_trace_Bytes_out r598_0), FnOK Go.Proofs.Try.prog 71 (f71_broughamref26_Bytes_in e597.1) (f71_broughamref26_Bytes_out r598_1), (r598_0.toList == r598_1.toList) = true, FnOK Go.Proofs.Try.prog 73 (f73_trace_Packets_in e597.2.1) (f73_trace_Packets_out r598_2), (r598_2.toList == e597.2.2.toList) = true, FnOK Go.Proofs.Try.prog 69 (f69_broughamlaw26_alive_in) (f69_broughamlaw26_alive_out r598_3)] (by kernel_rfl) ⟨(f72_trace_Bytes_ok n e597.1 r598_0 cr598_0), (f71_broughamref26_Bytes_ok n e597.1 r598_1 cr598_1), b598_5, (f73_trace_Packets_ok n e597.2.1 r598_2 cr598_2), b598_11, (f69_broughamlaw26_alive_ok n r598_3 cr598_3), trivial⟩
          · have h := Option.some.inj h
            subst h
            exact At.fin hm ht ⟨[(1, .call [] [] (f72_trace_Bytes_out r598_0)), (3, .call [] [] (f71_broughamref26_Bytes_out r598_1)), (5, .b true), (7, .call [] [] (f73_trace_Packets_out r598_2)), (11, .b false)], [], [], [4], []⟩ [FnOK Go.Proofs.Try.prog 72 (f72_trace_Bytes_in e597.1) (f72_trace_Bytes_out r598_0), FnOK Go.Proofs.Try.prog 71 (f71_broughamref26_Bytes_in e597.1) (f71_broughamref26_Bytes_out r598_1), (r598_0.toList == r598_1.toList) = true, FnOK Go.Proofs.Try.prog 73 (f73_trace_Packets_in e597.2.1) (f73_trace_Packets_out r598_2), (r598_2.toList == e597.2.2.toList) = false] (by kernel_rfl) ⟨(f72_trace_Bytes_ok n e597.1 r598_0 cr598_0), (f71_broughamref26_Bytes_ok n e597.1 r598_1 cr598_1), b598_5, (f73_trace_Packets_ok n e597.2.1 r598_2 cr598_2), b598_11, trivial⟩
        · have h := Option.some.inj h
          subst h
          exact At.fin hm ht ⟨[(1, .call [] [] (f72_trace_Bytes_out r598_0)), (3, .call [] [] (f71_broughamref26_Bytes_out r598_1)), (5, .b false)], [], [], [4], []⟩ [FnOK Go.Proofs.Try.prog 72 (f72_trace_Bytes_in e597.1) (f72_trace_Bytes_out r598_0), FnOK Go.Proofs.Try.prog 71 (f71_broughamref26_Bytes_in e597.1) (f71_broughamref26_Bytes_out r598_1), (r598_0.toList == r598_1.toList) = false] (by kernel_rfl) ⟨(f72_trace_Bytes_ok n e597.1 r598_0 cr598_0), (f71_broughamref26_Bytes_ok n e597.1 r598_1 cr598_1), b598_5, trivial⟩
end Go.Proofs.YtjoibacjpapncaaF26
