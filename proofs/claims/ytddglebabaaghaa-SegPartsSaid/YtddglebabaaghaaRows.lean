/-
  No cell of these rows narrows 'for every input' (looked for: loops, veiled, ifaces, maps, wideKeys, modest, calm, conditions, laid).
  DERIVED. THE GIVEN ROWS OF THIS SEAT. 12 by the template 'for every input the law returns true; each argument reads behind the call as it read before'; 0 by the template 'total and deterministic' (their statements: YtddglebabaaghaaTotals.lean).
  GIVEN WITH THE SEED: the statements are not yours to turn. If you find one false, say at which input.
  Laid BY PROGRAM, IN A SANDBOX (cutbox-rows.mjs): the forced cells as the released guide's own fill.sh prints them over the translation 1239913f5b04781d… (all of the seat's roots in one cut). By AI agents, Wed Nov 11 2026. No macro, syntax, notation, axiom, sorry.
-/
import Derived.Test.YtddglebabaaghaaChecked
import GoSem.Claim
import GoSem.ClaimJoined
import GoSem.ClaimMapViews
import Derived.JoinedTies
import Derived.KernelRfl
namespace Go.Proofs.Ytddglebabaaghaa
/- THE CELL 'sum', in the pinned program and in every row, IS THE sha256 OF THE DUMP (.gsa) THAT YtddglebabaaghaaProg.lean LOADS. Nothing in Lean hashes anything: it is a label: what it is worth is what the hold of that sum in a sandbox is worth. -/
noncomputable def Try.pinned : Pinned := { name := "ytddglebabaaghaa", sum := "1239913f5b04781d75b8bf0c1a0bcdb19af02576f41845de2f74f33ccb968a6a", checked := Try.checked }
namespace Rows
def none {H : Type} : Left H := { results := [], args := [] }

/-- 'broughamlaw08.OptOne': WHATEVER THE INPUT: true; the input reads as it did. -/
def optOneSpec : ChangeSpec := { name := "optOne", fn := fun _ => fun
  | [d1, d2] => { results := [.lit (.bool true)], args := [d1, d2] }
  | _ => none }
def optOneRow : OpenClaim := { program := "ytddglebabaaghaa", sum := "1239913f5b04781d75b8bf0c1a0bcdb19af02576f41845de2f74f33ccb968a6a", func := "brougham/broughamlaw08.OptOne", spec := "optOne", apart := false }
def OptOneSaid : Prop := optOneRow.holds Try.pinned (OpenSpec.ofChange optOneSpec)

/-- ITS FALSE NEIGHBOUR: 'it returns false'. Refute it at one input. -/
def optOneWrong : ChangeSpec := { name := "optOne", fn := fun _ => fun
  | [d1, d2] => { results := [.lit (.bool false)], args := [d1, d2] }
  | _ => none }
def OptOneWrongFalsely : Prop := optOneRow.holds Try.pinned (OpenSpec.ofChange optOneWrong)

/-- 'broughamlaw08.OptWrites': WHATEVER THE INPUT: true; the input reads as it did. -/
def optWritesSpec : ChangeSpec := { name := "optWrites", fn := fun _ => fun
  | [d] => { results := [.lit (.bool true)], args := [d] }
  | _ => none }
def optWritesRow : OpenClaim := { program := "ytddglebabaaghaa", sum := "1239913f5b04781d75b8bf0c1a0bcdb19af02576f41845de2f74f33ccb968a6a", func := "brougham/broughamlaw08.OptWrites", spec := "optWrites", recurses := true, apart := false }
def OptWritesSaid : Prop := optWritesRow.holds Try.pinned (OpenSpec.ofChange optWritesSpec)

/-- ITS FALSE NEIGHBOUR: 'it returns false'. Refute it at one input. -/
def optWritesWrong : ChangeSpec := { name := "optWrites", fn := fun _ => fun
  | [d] => { results := [.lit (.bool false)], args := [d] }
  | _ => none }
def OptWritesWrongFalsely : Prop := optWritesRow.holds Try.pinned (OpenSpec.ofChange optWritesWrong)

/-- 'broughamlaw08.OptReads': WHATEVER THE INPUT: true; the input reads as it did. -/
def optReadsSpec : ChangeSpec := { name := "optReads", fn := fun _ => fun
  | [d] => { results := [.lit (.bool true)], args := [d] }
  | _ => none }
def optReadsRow : OpenClaim := { program := "ytddglebabaaghaa", sum := "1239913f5b04781d75b8bf0c1a0bcdb19af02576f41845de2f74f33ccb968a6a", func := "brougham/broughamlaw08.OptReads", spec := "optReads", apart := false }
def OptReadsSaid : Prop := optReadsRow.holds Try.pinned (OpenSpec.ofChange optReadsSpec)

/-- ITS FALSE NEIGHBOUR: 'it returns false'. Refute it at one input. -/
def optReadsWrong : ChangeSpec := { name := "optReads", fn := fun _ => fun
  | [d] => { results := [.lit (.bool false)], args := [d] }
  | _ => none }
def OptReadsWrongFalsely : Prop := optReadsRow.holds Try.pinned (OpenSpec.ofChange optReadsWrong)

/-- 'broughamlaw07.SegWrites': WHATEVER THE INPUT: true; the input reads as it did. -/
def segWritesSpec : ChangeSpec := { name := "segWrites", fn := fun _ => fun
  | [d] => { results := [.lit (.bool true)], args := [d] }
  | _ => none }
def segWritesRow : OpenClaim := { program := "ytddglebabaaghaa", sum := "1239913f5b04781d75b8bf0c1a0bcdb19af02576f41845de2f74f33ccb968a6a", func := "brougham/broughamlaw07.SegWrites", spec := "segWrites", recurses := true, apart := false }
def SegWritesSaid : Prop := segWritesRow.holds Try.pinned (OpenSpec.ofChange segWritesSpec)

/-- ITS FALSE NEIGHBOUR: 'it returns false'. Refute it at one input. -/
def segWritesWrong : ChangeSpec := { name := "segWrites", fn := fun _ => fun
  | [d] => { results := [.lit (.bool false)], args := [d] }
  | _ => none }
def SegWritesWrongFalsely : Prop := segWritesRow.holds Try.pinned (OpenSpec.ofChange segWritesWrong)

/-- 'broughamlaw07.SegReads': WHATEVER THE INPUT: true; the input reads as it did. -/
def segReadsSpec : ChangeSpec := { name := "segReads", fn := fun _ => fun
  | [d] => { results := [.lit (.bool true)], args := [d] }
  | _ => none }
def segReadsRow : OpenClaim := { program := "ytddglebabaaghaa", sum := "1239913f5b04781d75b8bf0c1a0bcdb19af02576f41845de2f74f33ccb968a6a", func := "brougham/broughamlaw07.SegReads", spec := "segReads", apart := false }
def SegReadsSaid : Prop := segReadsRow.holds Try.pinned (OpenSpec.ofChange segReadsSpec)

/-- ITS FALSE NEIGHBOUR: 'it returns false'. Refute it at one input. -/
def segReadsWrong : ChangeSpec := { name := "segReads", fn := fun _ => fun
  | [d] => { results := [.lit (.bool false)], args := [d] }
  | _ => none }
def SegReadsWrongFalsely : Prop := segReadsRow.holds Try.pinned (OpenSpec.ofChange segReadsWrong)

/-- 'broughamlaw07.SegBack': WHATEVER THE INPUT: true; the input reads as it did. -/
def segBackSpec : ChangeSpec := { name := "segBack", fn := fun _ => fun
  | [d1, d2] => { results := [.lit (.bool true)], args := [d1, d2] }
  | _ => none }
def segBackRow : OpenClaim := { program := "ytddglebabaaghaa", sum := "1239913f5b04781d75b8bf0c1a0bcdb19af02576f41845de2f74f33ccb968a6a", func := "brougham/broughamlaw07.SegBack", spec := "segBack", apart := false }
def SegBackSaid : Prop := segBackRow.holds Try.pinned (OpenSpec.ofChange segBackSpec)

/-- ITS FALSE NEIGHBOUR: 'it returns false'. Refute it at one input. -/
def segBackWrong : ChangeSpec := { name := "segBack", fn := fun _ => fun
  | [d1, d2] => { results := [.lit (.bool false)], args := [d1, d2] }
  | _ => none }
def SegBackWrongFalsely : Prop := segBackRow.holds Try.pinned (OpenSpec.ofChange segBackWrong)

/-- 'broughamlaw08.OptBack': WHATEVER THE INPUT: true; the input reads as it did. -/
def optBackSpec : ChangeSpec := { name := "optBack", fn := fun _ => fun
  | [d1, d2] => { results := [.lit (.bool true)], args := [d1, d2] }
  | _ => none }
def optBackRow : OpenClaim := { program := "ytddglebabaaghaa", sum := "1239913f5b04781d75b8bf0c1a0bcdb19af02576f41845de2f74f33ccb968a6a", func := "brougham/broughamlaw08.OptBack", spec := "optBack", apart := false }
def OptBackSaid : Prop := optBackRow.holds Try.pinned (OpenSpec.ofChange optBackSpec)

/-- ITS FALSE NEIGHBOUR: 'it returns false'. Refute it at one input. -/
def optBackWrong : ChangeSpec := { name := "optBack", fn := fun _ => fun
  | [d1, d2] => { results := [.lit (.bool false)], args := [d1, d2] }
  | _ => none }
def OptBackWrongFalsely : Prop := optBackRow.holds Try.pinned (OpenSpec.ofChange optBackWrong)

/-- 'broughamlaw07.SegParts': WHATEVER THE INPUT: true; the input reads as it did. -/
def segPartsSpec : ChangeSpec := { name := "segParts", fn := fun _ => fun
  | [d1, d2, d3] => { results := [.lit (.bool true)], args := [d1, d2, d3] }
  | _ => none }
def segPartsRow : OpenClaim := { program := "ytddglebabaaghaa", sum := "1239913f5b04781d75b8bf0c1a0bcdb19af02576f41845de2f74f33ccb968a6a", func := "brougham/broughamlaw07.SegParts", spec := "segParts", apart := false }
def SegPartsSaid : Prop := segPartsRow.holds Try.pinned (OpenSpec.ofChange segPartsSpec)

/-- ITS FALSE NEIGHBOUR: 'it returns false'. Refute it at one input. -/
def segPartsWrong : ChangeSpec := { name := "segParts", fn := fun _ => fun
  | [d1, d2, d3] => { results := [.lit (.bool false)], args := [d1, d2, d3] }
  | _ => none }
def SegPartsWrongFalsely : Prop := segPartsRow.holds Try.pinned (OpenSpec.ofChange segPartsWrong)

/-- 'broughamlaw10.MacCovers': WHATEVER THE INPUT: true; the input reads as it did. -/
def macCoversSpec : ChangeSpec := { name := "macCovers", fn := fun _ => fun
  | [d1, d2, d3] => { results := [.lit (.bool true)], args := [d1, d2, d3] }
  | _ => none }
def macCoversRow : OpenClaim := { program := "ytddglebabaaghaa", sum := "1239913f5b04781d75b8bf0c1a0bcdb19af02576f41845de2f74f33ccb968a6a", func := "brougham/broughamlaw10.MacCovers", spec := "macCovers", apart := false }
def MacCoversSaid : Prop := macCoversRow.holds Try.pinned (OpenSpec.ofChange macCoversSpec)

/-- ITS FALSE NEIGHBOUR: 'it returns false'. Refute it at one input. -/
def macCoversWrong : ChangeSpec := { name := "macCovers", fn := fun _ => fun
  | [d1, d2, d3] => { results := [.lit (.bool false)], args := [d1, d2, d3] }
  | _ => none }
def MacCoversWrongFalsely : Prop := macCoversRow.holds Try.pinned (OpenSpec.ofChange macCoversWrong)

/-- 'broughamlaw10.MacOpens': WHATEVER THE INPUT: true; the input reads as it did. -/
def macOpensSpec : ChangeSpec := { name := "macOpens", fn := fun _ => fun
  | [d1, d2] => { results := [.lit (.bool true)], args := [d1, d2] }
  | _ => none }
def macOpensRow : OpenClaim := { program := "ytddglebabaaghaa", sum := "1239913f5b04781d75b8bf0c1a0bcdb19af02576f41845de2f74f33ccb968a6a", func := "brougham/broughamlaw10.MacOpens", spec := "macOpens", recurses := true, apart := false }
def MacOpensSaid : Prop := macOpensRow.holds Try.pinned (OpenSpec.ofChange macOpensSpec)

/-- ITS FALSE NEIGHBOUR: 'it returns false'. Refute it at one input. -/
def macOpensWrong : ChangeSpec := { name := "macOpens", fn := fun _ => fun
  | [d1, d2] => { results := [.lit (.bool false)], args := [d1, d2] }
  | _ => none }
def MacOpensWrongFalsely : Prop := macOpensRow.holds Try.pinned (OpenSpec.ofChange macOpensWrong)

/-- 'broughamlaw10.MacBack': WHATEVER THE INPUT: true; the input reads as it did. -/
def macBackSpec : ChangeSpec := { name := "macBack", fn := fun _ => fun
  | [d1, d2, d3] => { results := [.lit (.bool true)], args := [d1, d2, d3] }
  | _ => none }
def macBackRow : OpenClaim := { program := "ytddglebabaaghaa", sum := "1239913f5b04781d75b8bf0c1a0bcdb19af02576f41845de2f74f33ccb968a6a", func := "brougham/broughamlaw10.MacBack", spec := "macBack", apart := false }
def MacBackSaid : Prop := macBackRow.holds Try.pinned (OpenSpec.ofChange macBackSpec)

/-- ITS FALSE NEIGHBOUR: 'it returns false'. Refute it at one input. -/
def macBackWrong : ChangeSpec := { name := "macBack", fn := fun _ => fun
  | [d1, d2, d3] => { results := [.lit (.bool false)], args := [d1, d2, d3] }
  | _ => none }
def MacBackWrongFalsely : Prop := macBackRow.holds Try.pinned (OpenSpec.ofChange macBackWrong)

/-- 'broughamlaw10.MacSeals': WHATEVER THE INPUT: true; the input reads as it did. -/
def macSealsSpec : ChangeSpec := { name := "macSeals", fn := fun _ => fun
  | [d1, d2, d3] => { results := [.lit (.bool true)], args := [d1, d2, d3] }
  | _ => none }
def macSealsRow : OpenClaim := { program := "ytddglebabaaghaa", sum := "1239913f5b04781d75b8bf0c1a0bcdb19af02576f41845de2f74f33ccb968a6a", func := "brougham/broughamlaw10.MacSeals", spec := "macSeals", recurses := true, apart := false }
def MacSealsSaid : Prop := macSealsRow.holds Try.pinned (OpenSpec.ofChange macSealsSpec)

/-- ITS FALSE NEIGHBOUR: 'it returns false'. Refute it at one input. -/
def macSealsWrong : ChangeSpec := { name := "macSeals", fn := fun _ => fun
  | [d1, d2, d3] => { results := [.lit (.bool false)], args := [d1, d2, d3] }
  | _ => none }
def MacSealsWrongFalsely : Prop := macSealsRow.holds Try.pinned (OpenSpec.ofChange macSealsWrong)

/- THE SECOND FORM. 'bulk': how many values and letters a reading holds, each counted each time it is reached (what is shared counts as often as it is met; a slice's spare places count too). A statement '..UptoSaid' is the law's where the arguments, and the package variables that the reading takes, are together of bulk at most 1048576: NARROWER than '..Said'. Prove '..Said' where nothing that the law and all that it calls make is longer than what came in: it says more and counts as full. Else prove '..UptoSaid'. A law counts once. -/
mutual
def uptoBulk {H : Type} : DataW H → Nat
  | .lit (.string bytes) => bytes.length + 1
  | .lit _ => 1
  | .nil => 1
  | .ptr d => uptoBulk d + 1
  | .slice elems spare => uptoBulkAll elems + uptoBulkAll spare + 1
  | .agg parts => uptoBulkAll parts + 1
  | .iface _ d => uptoBulk d + 1
  | .map entries => uptoBulkEntries entries + 1
  | .held _ => 1
def uptoBulkAll {H : Type} : List (DataW H) → Nat
  | [] => 0
  | d :: r => uptoBulk d + uptoBulkAll r
def uptoBulkEntries {H : Type} : List (Lit × DataW H) → Nat
  | [] => 0
  | x :: r => uptoBulkEntry x + uptoBulkEntries r
def uptoBulkEntry {H : Type} : Lit × DataW H → Nat
  | (.string bytes, d) => bytes.length + uptoBulk d + 1
  | (_, d) => uptoBulk d + 1
 end
def uptoSmall : (H : Type) → List (DataW H) → Bool := fun _ ds => decide (uptoBulkAll ds ≤ 1048576)
def OpenSpec.upto (s : _root_.Go.ChangeSpec) : _root_.Go.OpenSpec := { _root_.Go.OpenSpec.ofChange s with cond := some uptoSmall }

/-- 'broughamlaw08.OptOne', WHERE WHAT IT READS IS OF BULK AT MOST 1048576: true; the input reads as it did. -/
def optOneUptoRow : OpenClaim := { program := "ytddglebabaaghaa", sum := "1239913f5b04781d75b8bf0c1a0bcdb19af02576f41845de2f74f33ccb968a6a", func := "brougham/broughamlaw08.OptOne", spec := "optOne", apart := false, narrowed := true }
def OptOneUptoSaid : Prop := optOneUptoRow.holds Try.pinned (OpenSpec.upto optOneSpec)

/-- 'broughamlaw08.OptWrites', WHERE WHAT IT READS IS OF BULK AT MOST 1048576: true; the input reads as it did. -/
def optWritesUptoRow : OpenClaim := { program := "ytddglebabaaghaa", sum := "1239913f5b04781d75b8bf0c1a0bcdb19af02576f41845de2f74f33ccb968a6a", func := "brougham/broughamlaw08.OptWrites", spec := "optWrites", recurses := true, apart := false, narrowed := true }
def OptWritesUptoSaid : Prop := optWritesUptoRow.holds Try.pinned (OpenSpec.upto optWritesSpec)

/-- 'broughamlaw08.OptReads', WHERE WHAT IT READS IS OF BULK AT MOST 1048576: true; the input reads as it did. -/
def optReadsUptoRow : OpenClaim := { program := "ytddglebabaaghaa", sum := "1239913f5b04781d75b8bf0c1a0bcdb19af02576f41845de2f74f33ccb968a6a", func := "brougham/broughamlaw08.OptReads", spec := "optReads", apart := false, narrowed := true }
def OptReadsUptoSaid : Prop := optReadsUptoRow.holds Try.pinned (OpenSpec.upto optReadsSpec)

/-- 'broughamlaw07.SegWrites', WHERE WHAT IT READS IS OF BULK AT MOST 1048576: true; the input reads as it did. -/
def segWritesUptoRow : OpenClaim := { program := "ytddglebabaaghaa", sum := "1239913f5b04781d75b8bf0c1a0bcdb19af02576f41845de2f74f33ccb968a6a", func := "brougham/broughamlaw07.SegWrites", spec := "segWrites", recurses := true, apart := false, narrowed := true }
def SegWritesUptoSaid : Prop := segWritesUptoRow.holds Try.pinned (OpenSpec.upto segWritesSpec)

/-- 'broughamlaw07.SegReads', WHERE WHAT IT READS IS OF BULK AT MOST 1048576: true; the input reads as it did. -/
def segReadsUptoRow : OpenClaim := { program := "ytddglebabaaghaa", sum := "1239913f5b04781d75b8bf0c1a0bcdb19af02576f41845de2f74f33ccb968a6a", func := "brougham/broughamlaw07.SegReads", spec := "segReads", apart := false, narrowed := true }
def SegReadsUptoSaid : Prop := segReadsUptoRow.holds Try.pinned (OpenSpec.upto segReadsSpec)

/-- 'broughamlaw07.SegBack', WHERE WHAT IT READS IS OF BULK AT MOST 1048576: true; the input reads as it did. -/
def segBackUptoRow : OpenClaim := { program := "ytddglebabaaghaa", sum := "1239913f5b04781d75b8bf0c1a0bcdb19af02576f41845de2f74f33ccb968a6a", func := "brougham/broughamlaw07.SegBack", spec := "segBack", apart := false, narrowed := true }
def SegBackUptoSaid : Prop := segBackUptoRow.holds Try.pinned (OpenSpec.upto segBackSpec)

/-- 'broughamlaw08.OptBack', WHERE WHAT IT READS IS OF BULK AT MOST 1048576: true; the input reads as it did. -/
def optBackUptoRow : OpenClaim := { program := "ytddglebabaaghaa", sum := "1239913f5b04781d75b8bf0c1a0bcdb19af02576f41845de2f74f33ccb968a6a", func := "brougham/broughamlaw08.OptBack", spec := "optBack", apart := false, narrowed := true }
def OptBackUptoSaid : Prop := optBackUptoRow.holds Try.pinned (OpenSpec.upto optBackSpec)

/-- 'broughamlaw07.SegParts', WHERE WHAT IT READS IS OF BULK AT MOST 1048576: true; the input reads as it did. -/
def segPartsUptoRow : OpenClaim := { program := "ytddglebabaaghaa", sum := "1239913f5b04781d75b8bf0c1a0bcdb19af02576f41845de2f74f33ccb968a6a", func := "brougham/broughamlaw07.SegParts", spec := "segParts", apart := false, narrowed := true }
def SegPartsUptoSaid : Prop := segPartsUptoRow.holds Try.pinned (OpenSpec.upto segPartsSpec)

/-- 'broughamlaw10.MacCovers', WHERE WHAT IT READS IS OF BULK AT MOST 1048576: true; the input reads as it did. -/
def macCoversUptoRow : OpenClaim := { program := "ytddglebabaaghaa", sum := "1239913f5b04781d75b8bf0c1a0bcdb19af02576f41845de2f74f33ccb968a6a", func := "brougham/broughamlaw10.MacCovers", spec := "macCovers", apart := false, narrowed := true }
def MacCoversUptoSaid : Prop := macCoversUptoRow.holds Try.pinned (OpenSpec.upto macCoversSpec)

/-- 'broughamlaw10.MacOpens', WHERE WHAT IT READS IS OF BULK AT MOST 1048576: true; the input reads as it did. -/
def macOpensUptoRow : OpenClaim := { program := "ytddglebabaaghaa", sum := "1239913f5b04781d75b8bf0c1a0bcdb19af02576f41845de2f74f33ccb968a6a", func := "brougham/broughamlaw10.MacOpens", spec := "macOpens", recurses := true, apart := false, narrowed := true }
def MacOpensUptoSaid : Prop := macOpensUptoRow.holds Try.pinned (OpenSpec.upto macOpensSpec)

/-- 'broughamlaw10.MacBack', WHERE WHAT IT READS IS OF BULK AT MOST 1048576: true; the input reads as it did. -/
def macBackUptoRow : OpenClaim := { program := "ytddglebabaaghaa", sum := "1239913f5b04781d75b8bf0c1a0bcdb19af02576f41845de2f74f33ccb968a6a", func := "brougham/broughamlaw10.MacBack", spec := "macBack", apart := false, narrowed := true }
def MacBackUptoSaid : Prop := macBackUptoRow.holds Try.pinned (OpenSpec.upto macBackSpec)

/-- 'broughamlaw10.MacSeals', WHERE WHAT IT READS IS OF BULK AT MOST 1048576: true; the input reads as it did. -/
def macSealsUptoRow : OpenClaim := { program := "ytddglebabaaghaa", sum := "1239913f5b04781d75b8bf0c1a0bcdb19af02576f41845de2f74f33ccb968a6a", func := "brougham/broughamlaw10.MacSeals", spec := "macSeals", recurses := true, apart := false, narrowed := true }
def MacSealsUptoSaid : Prop := macSealsUptoRow.holds Try.pinned (OpenSpec.upto macSealsSpec)

end Rows
end Go.Proofs.Ytddglebabaaghaa
