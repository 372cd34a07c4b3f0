/-
  No cell of these rows narrows 'for every input' (looked for: loops, veiled, ifaces, maps, wideKeys, modest, calm, conditions, laid).
  DERIVED. THE GIVEN ROWS OF THIS SEAT. 5 by the template 'for every input the law returns true; each argument reads behind the call as it read before'; 0 by the template 'total and deterministic' (their statements: YtiammpabkpoidaaGreatTotals.lean).
  GIVEN WITH THE SEED: the statements are not yours to turn. If you find one false, say at which input.
  Laid BY PROGRAM, IN A SANDBOX (cutbox-rows.mjs): the forced cells as the released guide's own fill.sh prints them over the translation 05430ef64af618de… (all of the seat's roots in one cut). By AI agents, Wed Nov 11 2026. No macro, syntax, notation, axiom, sorry.
-/
import Derived.Test.YtiammpabkpoidaaGreatChecked
import GoSem.Claim
import GoSem.ClaimJoined
import GoSem.ClaimMapViews
import Derived.JoinedTies
import Derived.KernelRfl
namespace Go.Proofs.YtiammpabkpoidaaGreat
/- THE CELL 'sum', in the pinned program and in every row, IS THE sha256 OF THE DUMP (.gsa) THAT YtiammpabkpoidaaGreatProg.lean LOADS. Nothing in Lean hashes anything: it is a label: what it is worth is what the hold of that sum in a sandbox is worth. -/
noncomputable def Tryz.pinned : Pinned := { name := "ytiammpabkpoidaagreat", sum := "05430ef64af618de2986b7e63cdbc437e678be4ed246d8939e26b46fc9ed3b3d", checked := Tryz.checked }
namespace Rows
def none {H : Type} : Left H := { results := [], args := [] }

/-- 'broughamtop.WholeSilence': WHATEVER THE INPUT: true; the input reads as it did. -/
def wholeSilenceSpec : ChangeSpec := { name := "wholeSilence", fn := fun _ => fun
  | [d1, d2] => { results := [.lit (.bool true)], args := [d1, d2] }
  | _ => none }
def wholeSilenceRow : OpenClaim := { program := "ytiammpabkpoidaagreat", sum := "05430ef64af618de2986b7e63cdbc437e678be4ed246d8939e26b46fc9ed3b3d", func := "brougham/broughamtop.WholeSilence", spec := "wholeSilence", inPlace := ["slices.overlaps[brougham/spans.Span]"], unfollowed := true, recurses := true, apart := false }
def WholeSilenceSaid : Prop := wholeSilenceRow.holds Tryz.pinned (OpenSpec.ofChange wholeSilenceSpec)

/-- ITS FALSE NEIGHBOUR: 'it returns false'. Refute it at one input. -/
def wholeSilenceWrong : ChangeSpec := { name := "wholeSilence", fn := fun _ => fun
  | [d1, d2] => { results := [.lit (.bool false)], args := [d1, d2] }
  | _ => none }
def WholeSilenceWrongFalsely : Prop := wholeSilenceRow.holds Tryz.pinned (OpenSpec.ofChange wholeSilenceWrong)

/-- 'broughamtop.WholeChallenges': WHATEVER THE INPUT: true; the input reads as it did. -/
def wholeChallengesSpec : ChangeSpec := { name := "wholeChallenges", fn := fun _ => fun
  | [d1, d2, d3] => { results := [.lit (.bool true)], args := [d1, d2, d3] }
  | _ => none }
def wholeChallengesRow : OpenClaim := { program := "ytiammpabkpoidaagreat", sum := "05430ef64af618de2986b7e63cdbc437e678be4ed246d8939e26b46fc9ed3b3d", func := "brougham/broughamtop.WholeChallenges", spec := "wholeChallenges", inPlace := ["slices.overlaps[brougham/spans.Span]"], unfollowed := true, recurses := true, apart := false }
def WholeChallengesSaid : Prop := wholeChallengesRow.holds Tryz.pinned (OpenSpec.ofChange wholeChallengesSpec)

/-- ITS FALSE NEIGHBOUR: 'it returns false'. Refute it at one input. -/
def wholeChallengesWrong : ChangeSpec := { name := "wholeChallenges", fn := fun _ => fun
  | [d1, d2, d3] => { results := [.lit (.bool false)], args := [d1, d2, d3] }
  | _ => none }
def WholeChallengesWrongFalsely : Prop := wholeChallengesRow.holds Tryz.pinned (OpenSpec.ofChange wholeChallengesWrong)

/-- 'broughamtop.WholeEchoes': WHATEVER THE INPUT: true; the input reads as it did. -/
def wholeEchoesSpec : ChangeSpec := { name := "wholeEchoes", fn := fun _ => fun
  | [d1, d2, d3] => { results := [.lit (.bool true)], args := [d1, d2, d3] }
  | _ => none }
def wholeEchoesRow : OpenClaim := { program := "ytiammpabkpoidaagreat", sum := "05430ef64af618de2986b7e63cdbc437e678be4ed246d8939e26b46fc9ed3b3d", func := "brougham/broughamtop.WholeEchoes", spec := "wholeEchoes", inPlace := ["slices.overlaps[brougham/spans.Span]"], unfollowed := true, recurses := true, apart := false }
def WholeEchoesSaid : Prop := wholeEchoesRow.holds Tryz.pinned (OpenSpec.ofChange wholeEchoesSpec)

/-- ITS FALSE NEIGHBOUR: 'it returns false'. Refute it at one input. -/
def wholeEchoesWrong : ChangeSpec := { name := "wholeEchoes", fn := fun _ => fun
  | [d1, d2, d3] => { results := [.lit (.bool false)], args := [d1, d2, d3] }
  | _ => none }
def WholeEchoesWrongFalsely : Prop := wholeEchoesRow.holds Tryz.pinned (OpenSpec.ofChange wholeEchoesWrong)

/-- 'broughamtop.WholeRejoin': WHATEVER THE INPUT: true; the input reads as it did. -/
def wholeRejoinSpec : ChangeSpec := { name := "wholeRejoin", fn := fun _ => fun
  | [d1, d2] => { results := [.lit (.bool true)], args := [d1, d2] }
  | _ => none }
def wholeRejoinRow : OpenClaim := { program := "ytiammpabkpoidaagreat", sum := "05430ef64af618de2986b7e63cdbc437e678be4ed246d8939e26b46fc9ed3b3d", func := "brougham/broughamtop.WholeRejoin", spec := "wholeRejoin", inPlace := ["slices.overlaps[brougham/spans.Span]"], unfollowed := true, recurses := true, apart := false }
def WholeRejoinSaid : Prop := wholeRejoinRow.holds Tryz.pinned (OpenSpec.ofChange wholeRejoinSpec)

/-- ITS FALSE NEIGHBOUR: 'it returns false'. Refute it at one input. -/
def wholeRejoinWrong : ChangeSpec := { name := "wholeRejoin", fn := fun _ => fun
  | [d1, d2] => { results := [.lit (.bool false)], args := [d1, d2] }
  | _ => none }
def WholeRejoinWrongFalsely : Prop := wholeRejoinRow.holds Tryz.pinned (OpenSpec.ofChange wholeRejoinWrong)

/-- 'broughamtop.WholePrefers': WHATEVER THE INPUT: true; the input reads as it did. -/
def wholePrefersSpec : ChangeSpec := { name := "wholePrefers", fn := fun _ => fun
  | [d1, d2, d3] => { results := [.lit (.bool true)], args := [d1, d2, d3] }
  | _ => none }
def wholePrefersRow : OpenClaim := { program := "ytiammpabkpoidaagreat", sum := "05430ef64af618de2986b7e63cdbc437e678be4ed246d8939e26b46fc9ed3b3d", func := "brougham/broughamtop.WholePrefers", spec := "wholePrefers", inPlace := ["slices.overlaps[brougham/spans.Span]"], unfollowed := true, recurses := true, apart := false }
def WholePrefersSaid : Prop := wholePrefersRow.holds Tryz.pinned (OpenSpec.ofChange wholePrefersSpec)

/-- ITS FALSE NEIGHBOUR: 'it returns false'. Refute it at one input. -/
def wholePrefersWrong : ChangeSpec := { name := "wholePrefers", fn := fun _ => fun
  | [d1, d2, d3] => { results := [.lit (.bool false)], args := [d1, d2, d3] }
  | _ => none }
def WholePrefersWrongFalsely : Prop := wholePrefersRow.holds Tryz.pinned (OpenSpec.ofChange wholePrefersWrong)

/- THE SECOND FORM. 'bulk': how many values and letters a reading holds, each counted each time it is reached (what is shared counts as often as it is met; a slice's spare places count too). A statement '..UptoSaid' is the law's where the arguments, and the package variables that the reading takes, are together of bulk at most 1048576: NARROWER than '..Said'. Prove '..Said' where nothing that the law and all that it calls make is longer than what came in: it says more and counts as full. Else prove '..UptoSaid'. A law counts once. -/
mutual
def uptoBulk {H : Type} : DataW H → Nat
  | .lit (.string bytes) => bytes.length + 1
  | .lit _ => 1
  | .nil => 1
  | .ptr d => uptoBulk d + 1
  | .slice elems spare => uptoBulkAll elems + uptoBulkAll spare + 1
  | .agg parts => uptoBulkAll parts + 1
  | .iface _ d => uptoBulk d + 1
  | .map entries => uptoBulkEntries entries + 1
  | .held _ => 1
def uptoBulkAll {H : Type} : List (DataW H) → Nat
  | [] => 0
  | d :: r => uptoBulk d + uptoBulkAll r
def uptoBulkEntries {H : Type} : List (Lit × DataW H) → Nat
  | [] => 0
  | x :: r => uptoBulkEntry x + uptoBulkEntries r
def uptoBulkEntry {H : Type} : Lit × DataW H → Nat
  | (.string bytes, d) => bytes.length + uptoBulk d + 1
  | (_, d) => uptoBulk d + 1
 end
def uptoSmall : (H : Type) → List (DataW H) → Bool := fun _ ds => decide (uptoBulkAll ds ≤ 1048576)
def OpenSpec.upto (s : _root_.Go.ChangeSpec) : _root_.Go.OpenSpec := { _root_.Go.OpenSpec.ofChange s with cond := some uptoSmall }

/-- 'broughamtop.WholeSilence', WHERE WHAT IT READS IS OF BULK AT MOST 1048576: true; the input reads as it did. -/
def wholeSilenceUptoRow : OpenClaim := { program := "ytiammpabkpoidaagreat", sum := "05430ef64af618de2986b7e63cdbc437e678be4ed246d8939e26b46fc9ed3b3d", func := "brougham/broughamtop.WholeSilence", spec := "wholeSilence", inPlace := ["slices.overlaps[brougham/spans.Span]"], unfollowed := true, recurses := true, apart := false, narrowed := true }
def WholeSilenceUptoSaid : Prop := wholeSilenceUptoRow.holds Tryz.pinned (OpenSpec.upto wholeSilenceSpec)

/-- 'broughamtop.WholeChallenges', WHERE WHAT IT READS IS OF BULK AT MOST 1048576: true; the input reads as it did. -/
def wholeChallengesUptoRow : OpenClaim := { program := "ytiammpabkpoidaagreat", sum := "05430ef64af618de2986b7e63cdbc437e678be4ed246d8939e26b46fc9ed3b3d", func := "brougham/broughamtop.WholeChallenges", spec := "wholeChallenges", inPlace := ["slices.overlaps[brougham/spans.Span]"], unfollowed := true, recurses := true, apart := false, narrowed := true }
def WholeChallengesUptoSaid : Prop := wholeChallengesUptoRow.holds Tryz.pinned (OpenSpec.upto wholeChallengesSpec)

/-- 'broughamtop.WholeEchoes', WHERE WHAT IT READS IS OF BULK AT MOST 1048576: true; the input reads as it did. -/
def wholeEchoesUptoRow : OpenClaim := { program := "ytiammpabkpoidaagreat", sum := "05430ef64af618de2986b7e63cdbc437e678be4ed246d8939e26b46fc9ed3b3d", func := "brougham/broughamtop.WholeEchoes", spec := "wholeEchoes", inPlace := ["slices.overlaps[brougham/spans.Span]"], unfollowed := true, recurses := true, apart := false, narrowed := true }
def WholeEchoesUptoSaid : Prop := wholeEchoesUptoRow.holds Tryz.pinned (OpenSpec.upto wholeEchoesSpec)

/-- 'broughamtop.WholeRejoin', WHERE WHAT IT READS IS OF BULK AT MOST 1048576: true; the input reads as it did. -/
def wholeRejoinUptoRow : OpenClaim := { program := "ytiammpabkpoidaagreat", sum := "05430ef64af618de2986b7e63cdbc437e678be4ed246d8939e26b46fc9ed3b3d", func := "brougham/broughamtop.WholeRejoin", spec := "wholeRejoin", inPlace := ["slices.overlaps[brougham/spans.Span]"], unfollowed := true, recurses := true, apart := false, narrowed := true }
def WholeRejoinUptoSaid : Prop := wholeRejoinUptoRow.holds Tryz.pinned (OpenSpec.upto wholeRejoinSpec)

/-- 'broughamtop.WholePrefers', WHERE WHAT IT READS IS OF BULK AT MOST 1048576: true; the input reads as it did. -/
def wholePrefersUptoRow : OpenClaim := { program := "ytiammpabkpoidaagreat", sum := "05430ef64af618de2986b7e63cdbc437e678be4ed246d8939e26b46fc9ed3b3d", func := "brougham/broughamtop.WholePrefers", spec := "wholePrefers", inPlace := ["slices.overlaps[brougham/spans.Span]"], unfollowed := true, recurses := true, apart := false, narrowed := true }
def WholePrefersUptoSaid : Prop := wholePrefersUptoRow.holds Tryz.pinned (OpenSpec.upto wholePrefersSpec)

end Rows
end Go.Proofs.YtiammpabkpoidaaGreat
