/-
  No cell of these rows narrows 'for every input' (looked for: loops, veiled, ifaces, maps, wideKeys, modest, calm, conditions, laid).
  DERIVED. THE GIVEN ROWS OF THIS SEAT. 12 by the template 'for every input the law returns true; each argument reads behind the call as it read before'; 0 by the template 'total and deterministic' (their statements: YtjmebloeodcoaaaTotals.lean).
  GIVEN WITH THE SEED: the statements are not yours to turn. If you find one false, say at which input.
  Laid BY PROGRAM, IN A SANDBOX (cutbox-rows.mjs): the forced cells as the released guide's own fill.sh prints them over the translation 263c4b1595d0ee4d… (all of the seat's roots in one cut). By AI agents, Wed Nov 11 2026. No macro, syntax, notation, axiom, sorry.
-/
import Derived.Test.YtjmebloeodcoaaaChecked
import GoSem.Claim
import GoSem.ClaimJoined
import GoSem.ClaimMapViews
import Derived.JoinedTies
import Derived.KernelRfl
namespace Go.Proofs.Ytjmebloeodcoaaa
/- THE CELL 'sum', in the pinned program and in every row, IS THE sha256 OF THE DUMP (.gsa) THAT YtjmebloeodcoaaaProg.lean LOADS. Nothing in Lean hashes anything: it is a label: what it is worth is what the hold of that sum in a sandbox is worth. -/
noncomputable def Try.pinned : Pinned := { name := "ytjmebloeodcoaaa", sum := "263c4b1595d0ee4d17bfe061257bf0f2c60bd713785eea0668c0a0c08c745cc8", checked := Try.checked }
namespace Rows
def none {H : Type} : Left H := { results := [], args := [] }

/-- 'broughamlaw14.QuarForgets': WHATEVER THE INPUT: true; the input reads as it did. -/
def quarForgetsSpec : ChangeSpec := { name := "quarForgets", fn := fun _ => fun
  | [d1, d2] => { results := [.lit (.bool true)], args := [d1, d2] }
  | _ => none }
def quarForgetsRow : OpenClaim := { program := "ytjmebloeodcoaaa", sum := "263c4b1595d0ee4d17bfe061257bf0f2c60bd713785eea0668c0a0c08c745cc8", func := "brougham/broughamlaw14.QuarForgets", spec := "quarForgets", apart := false }
def QuarForgetsSaid : Prop := quarForgetsRow.holds Try.pinned (OpenSpec.ofChange quarForgetsSpec)

/-- ITS FALSE NEIGHBOUR: 'it returns false'. Refute it at one input. -/
def quarForgetsWrong : ChangeSpec := { name := "quarForgets", fn := fun _ => fun
  | [d1, d2] => { results := [.lit (.bool false)], args := [d1, d2] }
  | _ => none }
def QuarForgetsWrongFalsely : Prop := quarForgetsRow.holds Try.pinned (OpenSpec.ofChange quarForgetsWrong)

/-- 'broughamlaw11.BucketPlays': WHATEVER THE INPUT: true; the input reads as it did. -/
def bucketPlaysSpec : ChangeSpec := { name := "bucketPlays", fn := fun _ => fun
  | [d1, d2, d3] => { results := [.lit (.bool true)], args := [d1, d2, d3] }
  | _ => none }
def bucketPlaysRow : OpenClaim := { program := "ytjmebloeodcoaaa", sum := "263c4b1595d0ee4d17bfe061257bf0f2c60bd713785eea0668c0a0c08c745cc8", func := "brougham/broughamlaw11.BucketPlays", spec := "bucketPlays", apart := false }
def BucketPlaysSaid : Prop := bucketPlaysRow.holds Try.pinned (OpenSpec.ofChange bucketPlaysSpec)

/-- ITS FALSE NEIGHBOUR: 'it returns false'. Refute it at one input. -/
def bucketPlaysWrong : ChangeSpec := { name := "bucketPlays", fn := fun _ => fun
  | [d1, d2, d3] => { results := [.lit (.bool false)], args := [d1, d2, d3] }
  | _ => none }
def BucketPlaysWrongFalsely : Prop := bucketPlaysRow.holds Try.pinned (OpenSpec.ofChange bucketPlaysWrong)

/-- 'broughamlaw11.BucketBound': WHATEVER THE INPUT: true; the input reads as it did. -/
def bucketBoundSpec : ChangeSpec := { name := "bucketBound", fn := fun _ => fun
  | [d1, d2, d3] => { results := [.lit (.bool true)], args := [d1, d2, d3] }
  | _ => none }
def bucketBoundRow : OpenClaim := { program := "ytjmebloeodcoaaa", sum := "263c4b1595d0ee4d17bfe061257bf0f2c60bd713785eea0668c0a0c08c745cc8", func := "brougham/broughamlaw11.BucketBound", spec := "bucketBound", apart := false }
def BucketBoundSaid : Prop := bucketBoundRow.holds Try.pinned (OpenSpec.ofChange bucketBoundSpec)

/-- ITS FALSE NEIGHBOUR: 'it returns false'. Refute it at one input. -/
def bucketBoundWrong : ChangeSpec := { name := "bucketBound", fn := fun _ => fun
  | [d1, d2, d3] => { results := [.lit (.bool false)], args := [d1, d2, d3] }
  | _ => none }
def BucketBoundWrongFalsely : Prop := bucketBoundRow.holds Try.pinned (OpenSpec.ofChange bucketBoundWrong)

/-- 'broughamlaw04.SerialWide': WHATEVER THE INPUT: true; the input reads as it did. -/
def serialWideSpec : ChangeSpec := { name := "serialWide", fn := fun _ => fun
  | [d1, d2] => { results := [.lit (.bool true)], args := [d1, d2] }
  | _ => none }
def serialWideRow : OpenClaim := { program := "ytjmebloeodcoaaa", sum := "263c4b1595d0ee4d17bfe061257bf0f2c60bd713785eea0668c0a0c08c745cc8", func := "brougham/broughamlaw04.SerialWide", spec := "serialWide", apart := false }
def SerialWideSaid : Prop := serialWideRow.holds Try.pinned (OpenSpec.ofChange serialWideSpec)

/-- ITS FALSE NEIGHBOUR: 'it returns false'. Refute it at one input. -/
def serialWideWrong : ChangeSpec := { name := "serialWide", fn := fun _ => fun
  | [d1, d2] => { results := [.lit (.bool false)], args := [d1, d2] }
  | _ => none }
def SerialWideWrongFalsely : Prop := serialWideRow.holds Try.pinned (OpenSpec.ofChange serialWideWrong)

/-- 'broughamlaw04.SerialHome': WHATEVER THE INPUT: true; the input reads as it did. -/
def serialHomeSpec : ChangeSpec := { name := "serialHome", fn := fun _ => fun
  | [d1, d2] => { results := [.lit (.bool true)], args := [d1, d2] }
  | _ => none }
def serialHomeRow : OpenClaim := { program := "ytjmebloeodcoaaa", sum := "263c4b1595d0ee4d17bfe061257bf0f2c60bd713785eea0668c0a0c08c745cc8", func := "brougham/broughamlaw04.SerialHome", spec := "serialHome", apart := false }
def SerialHomeSaid : Prop := serialHomeRow.holds Try.pinned (OpenSpec.ofChange serialHomeSpec)

/-- ITS FALSE NEIGHBOUR: 'it returns false'. Refute it at one input. -/
def serialHomeWrong : ChangeSpec := { name := "serialHome", fn := fun _ => fun
  | [d1, d2] => { results := [.lit (.bool false)], args := [d1, d2] }
  | _ => none }
def SerialHomeWrongFalsely : Prop := serialHomeRow.holds Try.pinned (OpenSpec.ofChange serialHomeWrong)

/-- 'broughamlaw04.SerialChain': WHATEVER THE INPUT: true; the input reads as it did. -/
def serialChainSpec : ChangeSpec := { name := "serialChain", fn := fun _ => fun
  | [d1, d2] => { results := [.lit (.bool true)], args := [d1, d2] }
  | _ => none }
def serialChainRow : OpenClaim := { program := "ytjmebloeodcoaaa", sum := "263c4b1595d0ee4d17bfe061257bf0f2c60bd713785eea0668c0a0c08c745cc8", func := "brougham/broughamlaw04.SerialChain", spec := "serialChain", apart := false }
def SerialChainSaid : Prop := serialChainRow.holds Try.pinned (OpenSpec.ofChange serialChainSpec)

/-- ITS FALSE NEIGHBOUR: 'it returns false'. Refute it at one input. -/
def serialChainWrong : ChangeSpec := { name := "serialChain", fn := fun _ => fun
  | [d1, d2] => { results := [.lit (.bool false)], args := [d1, d2] }
  | _ => none }
def SerialChainWrongFalsely : Prop := serialChainRow.holds Try.pinned (OpenSpec.ofChange serialChainWrong)

/-- 'broughamlaw04.SerialMoves': WHATEVER THE INPUT: true; the input reads as it did. -/
def serialMovesSpec : ChangeSpec := { name := "serialMoves", fn := fun _ => fun
  | [d1, d2, d3] => { results := [.lit (.bool true)], args := [d1, d2, d3] }
  | _ => none }
def serialMovesRow : OpenClaim := { program := "ytjmebloeodcoaaa", sum := "263c4b1595d0ee4d17bfe061257bf0f2c60bd713785eea0668c0a0c08c745cc8", func := "brougham/broughamlaw04.SerialMoves", spec := "serialMoves", apart := false }
def SerialMovesSaid : Prop := serialMovesRow.holds Try.pinned (OpenSpec.ofChange serialMovesSpec)

/-- ITS FALSE NEIGHBOUR: 'it returns false'. Refute it at one input. -/
def serialMovesWrong : ChangeSpec := { name := "serialMoves", fn := fun _ => fun
  | [d1, d2, d3] => { results := [.lit (.bool false)], args := [d1, d2, d3] }
  | _ => none }
def SerialMovesWrongFalsely : Prop := serialMovesRow.holds Try.pinned (OpenSpec.ofChange serialMovesWrong)

/-- 'broughamlaw12.RtoBacks': WHATEVER THE INPUT: true; the input reads as it did. -/
def rtoBacksSpec : ChangeSpec := { name := "rtoBacks", fn := fun _ => fun
  | [d1, d2] => { results := [.lit (.bool true)], args := [d1, d2] }
  | _ => none }
def rtoBacksRow : OpenClaim := { program := "ytjmebloeodcoaaa", sum := "263c4b1595d0ee4d17bfe061257bf0f2c60bd713785eea0668c0a0c08c745cc8", func := "brougham/broughamlaw12.RtoBacks", spec := "rtoBacks", apart := false }
def RtoBacksSaid : Prop := rtoBacksRow.holds Try.pinned (OpenSpec.ofChange rtoBacksSpec)

/-- ITS FALSE NEIGHBOUR: 'it returns false'. Refute it at one input. -/
def rtoBacksWrong : ChangeSpec := { name := "rtoBacks", fn := fun _ => fun
  | [d1, d2] => { results := [.lit (.bool false)], args := [d1, d2] }
  | _ => none }
def RtoBacksWrongFalsely : Prop := rtoBacksRow.holds Try.pinned (OpenSpec.ofChange rtoBacksWrong)

/-- 'broughamlaw04.SerialOrders': WHATEVER THE INPUT: true; the input reads as it did. -/
def serialOrdersSpec : ChangeSpec := { name := "serialOrders", fn := fun _ => fun
  | [d1, d2, d3] => { results := [.lit (.bool true)], args := [d1, d2, d3] }
  | _ => none }
def serialOrdersRow : OpenClaim := { program := "ytjmebloeodcoaaa", sum := "263c4b1595d0ee4d17bfe061257bf0f2c60bd713785eea0668c0a0c08c745cc8", func := "brougham/broughamlaw04.SerialOrders", spec := "serialOrders", apart := false }
def SerialOrdersSaid : Prop := serialOrdersRow.holds Try.pinned (OpenSpec.ofChange serialOrdersSpec)

/-- ITS FALSE NEIGHBOUR: 'it returns false'. Refute it at one input. -/
def serialOrdersWrong : ChangeSpec := { name := "serialOrders", fn := fun _ => fun
  | [d1, d2, d3] => { results := [.lit (.bool false)], args := [d1, d2, d3] }
  | _ => none }
def SerialOrdersWrongFalsely : Prop := serialOrdersRow.holds Try.pinned (OpenSpec.ofChange serialOrdersWrong)

/-- 'broughamlaw02.PackBack': WHATEVER THE INPUT: true; the input reads as it did. -/
def packBackSpec : ChangeSpec := { name := "packBack", fn := fun _ => fun
  | [d1, d2] => { results := [.lit (.bool true)], args := [d1, d2] }
  | _ => none }
def packBackRow : OpenClaim := { program := "ytjmebloeodcoaaa", sum := "263c4b1595d0ee4d17bfe061257bf0f2c60bd713785eea0668c0a0c08c745cc8", func := "brougham/broughamlaw02.PackBack", spec := "packBack", apart := false }
def PackBackSaid : Prop := packBackRow.holds Try.pinned (OpenSpec.ofChange packBackSpec)

/-- ITS FALSE NEIGHBOUR: 'it returns false'. Refute it at one input. -/
def packBackWrong : ChangeSpec := { name := "packBack", fn := fun _ => fun
  | [d1, d2] => { results := [.lit (.bool false)], args := [d1, d2] }
  | _ => none }
def PackBackWrongFalsely : Prop := packBackRow.holds Try.pinned (OpenSpec.ofChange packBackWrong)

/-- 'broughamlaw02.PackGets': WHATEVER THE INPUT: true; the input reads as it did. -/
def packGetsSpec : ChangeSpec := { name := "packGets", fn := fun _ => fun
  | [d1, d2] => { results := [.lit (.bool true)], args := [d1, d2] }
  | _ => none }
def packGetsRow : OpenClaim := { program := "ytjmebloeodcoaaa", sum := "263c4b1595d0ee4d17bfe061257bf0f2c60bd713785eea0668c0a0c08c745cc8", func := "brougham/broughamlaw02.PackGets", spec := "packGets", apart := false }
def PackGetsSaid : Prop := packGetsRow.holds Try.pinned (OpenSpec.ofChange packGetsSpec)

/-- ITS FALSE NEIGHBOUR: 'it returns false'. Refute it at one input. -/
def packGetsWrong : ChangeSpec := { name := "packGets", fn := fun _ => fun
  | [d1, d2] => { results := [.lit (.bool false)], args := [d1, d2] }
  | _ => none }
def PackGetsWrongFalsely : Prop := packGetsRow.holds Try.pinned (OpenSpec.ofChange packGetsWrong)

/-- 'broughamlaw02.PackPuts': WHATEVER THE INPUT: true; the input reads as it did. -/
def packPutsSpec : ChangeSpec := { name := "packPuts", fn := fun _ => fun
  | [d1, d2, d3] => { results := [.lit (.bool true)], args := [d1, d2, d3] }
  | _ => none }
def packPutsRow : OpenClaim := { program := "ytjmebloeodcoaaa", sum := "263c4b1595d0ee4d17bfe061257bf0f2c60bd713785eea0668c0a0c08c745cc8", func := "brougham/broughamlaw02.PackPuts", spec := "packPuts", recurses := true, apart := false }
def PackPutsSaid : Prop := packPutsRow.holds Try.pinned (OpenSpec.ofChange packPutsSpec)

/-- ITS FALSE NEIGHBOUR: 'it returns false'. Refute it at one input. -/
def packPutsWrong : ChangeSpec := { name := "packPuts", fn := fun _ => fun
  | [d1, d2, d3] => { results := [.lit (.bool false)], args := [d1, d2, d3] }
  | _ => none }
def PackPutsWrongFalsely : Prop := packPutsRow.holds Try.pinned (OpenSpec.ofChange packPutsWrong)

/- THE SECOND FORM. 'bulk': how many values and letters a reading holds, each counted each time it is reached (what is shared counts as often as it is met; a slice's spare places count too). A statement '..UptoSaid' is the law's where the arguments, and the package variables that the reading takes, are together of bulk at most 1048576: NARROWER than '..Said'. Prove '..Said' where nothing that the law and all that it calls make is longer than what came in: it says more and counts as full. Else prove '..UptoSaid'. A law counts once. -/
mutual
def uptoBulk {H : Type} : DataW H → Nat
  | .lit (.string bytes) => bytes.length + 1
  | .lit _ => 1
  | .nil => 1
  | .ptr d => uptoBulk d + 1
  | .slice elems spare => uptoBulkAll elems + uptoBulkAll spare + 1
  | .agg parts => uptoBulkAll parts + 1
  | .iface _ d => uptoBulk d + 1
  | .map entries => uptoBulkEntries entries + 1
  | .held _ => 1
def uptoBulkAll {H : Type} : List (DataW H) → Nat
  | [] => 0
  | d :: r => uptoBulk d + uptoBulkAll r
def uptoBulkEntries {H : Type} : List (Lit × DataW H) → Nat
  | [] => 0
  | x :: r => uptoBulkEntry x + uptoBulkEntries r
def uptoBulkEntry {H : Type} : Lit × DataW H → Nat
  | (.string bytes, d) => bytes.length + uptoBulk d + 1
  | (_, d) => uptoBulk d + 1
 end
def uptoSmall : (H : Type) → List (DataW H) → Bool := fun _ ds => decide (uptoBulkAll ds ≤ 1048576)
def OpenSpec.upto (s : _root_.Go.ChangeSpec) : _root_.Go.OpenSpec := { _root_.Go.OpenSpec.ofChange s with cond := some uptoSmall }

/-- 'broughamlaw14.QuarForgets', WHERE WHAT IT READS IS OF BULK AT MOST 1048576: true; the input reads as it did. -/
def quarForgetsUptoRow : OpenClaim := { program := "ytjmebloeodcoaaa", sum := "263c4b1595d0ee4d17bfe061257bf0f2c60bd713785eea0668c0a0c08c745cc8", func := "brougham/broughamlaw14.QuarForgets", spec := "quarForgets", apart := false, narrowed := true }
def QuarForgetsUptoSaid : Prop := quarForgetsUptoRow.holds Try.pinned (OpenSpec.upto quarForgetsSpec)

/-- 'broughamlaw11.BucketPlays', WHERE WHAT IT READS IS OF BULK AT MOST 1048576: true; the input reads as it did. -/
def bucketPlaysUptoRow : OpenClaim := { program := "ytjmebloeodcoaaa", sum := "263c4b1595d0ee4d17bfe061257bf0f2c60bd713785eea0668c0a0c08c745cc8", func := "brougham/broughamlaw11.BucketPlays", spec := "bucketPlays", apart := false, narrowed := true }
def BucketPlaysUptoSaid : Prop := bucketPlaysUptoRow.holds Try.pinned (OpenSpec.upto bucketPlaysSpec)

/-- 'broughamlaw11.BucketBound', WHERE WHAT IT READS IS OF BULK AT MOST 1048576: true; the input reads as it did. -/
def bucketBoundUptoRow : OpenClaim := { program := "ytjmebloeodcoaaa", sum := "263c4b1595d0ee4d17bfe061257bf0f2c60bd713785eea0668c0a0c08c745cc8", func := "brougham/broughamlaw11.BucketBound", spec := "bucketBound", apart := false, narrowed := true }
def BucketBoundUptoSaid : Prop := bucketBoundUptoRow.holds Try.pinned (OpenSpec.upto bucketBoundSpec)

/-- 'broughamlaw04.SerialWide', WHERE WHAT IT READS IS OF BULK AT MOST 1048576: true; the input reads as it did. -/
def serialWideUptoRow : OpenClaim := { program := "ytjmebloeodcoaaa", sum := "263c4b1595d0ee4d17bfe061257bf0f2c60bd713785eea0668c0a0c08c745cc8", func := "brougham/broughamlaw04.SerialWide", spec := "serialWide", apart := false, narrowed := true }
def SerialWideUptoSaid : Prop := serialWideUptoRow.holds Try.pinned (OpenSpec.upto serialWideSpec)

/-- 'broughamlaw04.SerialHome', WHERE WHAT IT READS IS OF BULK AT MOST 1048576: true; the input reads as it did. -/
def serialHomeUptoRow : OpenClaim := { program := "ytjmebloeodcoaaa", sum := "263c4b1595d0ee4d17bfe061257bf0f2c60bd713785eea0668c0a0c08c745cc8", func := "brougham/broughamlaw04.SerialHome", spec := "serialHome", apart := false, narrowed := true }
def SerialHomeUptoSaid : Prop := serialHomeUptoRow.holds Try.pinned (OpenSpec.upto serialHomeSpec)

/-- 'broughamlaw04.SerialChain', WHERE WHAT IT READS IS OF BULK AT MOST 1048576: true; the input reads as it did. -/
def serialChainUptoRow : OpenClaim := { program := "ytjmebloeodcoaaa", sum := "263c4b1595d0ee4d17bfe061257bf0f2c60bd713785eea0668c0a0c08c745cc8", func := "brougham/broughamlaw04.SerialChain", spec := "serialChain", apart := false, narrowed := true }
def SerialChainUptoSaid : Prop := serialChainUptoRow.holds Try.pinned (OpenSpec.upto serialChainSpec)

/-- 'broughamlaw04.SerialMoves', WHERE WHAT IT READS IS OF BULK AT MOST 1048576: true; the input reads as it did. -/
def serialMovesUptoRow : OpenClaim := { program := "ytjmebloeodcoaaa", sum := "263c4b1595d0ee4d17bfe061257bf0f2c60bd713785eea0668c0a0c08c745cc8", func := "brougham/broughamlaw04.SerialMoves", spec := "serialMoves", apart := false, narrowed := true }
def SerialMovesUptoSaid : Prop := serialMovesUptoRow.holds Try.pinned (OpenSpec.upto serialMovesSpec)

/-- 'broughamlaw12.RtoBacks', WHERE WHAT IT READS IS OF BULK AT MOST 1048576: true; the input reads as it did. -/
def rtoBacksUptoRow : OpenClaim := { program := "ytjmebloeodcoaaa", sum := "263c4b1595d0ee4d17bfe061257bf0f2c60bd713785eea0668c0a0c08c745cc8", func := "brougham/broughamlaw12.RtoBacks", spec := "rtoBacks", apart := false, narrowed := true }
def RtoBacksUptoSaid : Prop := rtoBacksUptoRow.holds Try.pinned (OpenSpec.upto rtoBacksSpec)

/-- 'broughamlaw04.SerialOrders', WHERE WHAT IT READS IS OF BULK AT MOST 1048576: true; the input reads as it did. -/
def serialOrdersUptoRow : OpenClaim := { program := "ytjmebloeodcoaaa", sum := "263c4b1595d0ee4d17bfe061257bf0f2c60bd713785eea0668c0a0c08c745cc8", func := "brougham/broughamlaw04.SerialOrders", spec := "serialOrders", apart := false, narrowed := true }
def SerialOrdersUptoSaid : Prop := serialOrdersUptoRow.holds Try.pinned (OpenSpec.upto serialOrdersSpec)

/-- 'broughamlaw02.PackBack', WHERE WHAT IT READS IS OF BULK AT MOST 1048576: true; the input reads as it did. -/
def packBackUptoRow : OpenClaim := { program := "ytjmebloeodcoaaa", sum := "263c4b1595d0ee4d17bfe061257bf0f2c60bd713785eea0668c0a0c08c745cc8", func := "brougham/broughamlaw02.PackBack", spec := "packBack", apart := false, narrowed := true }
def PackBackUptoSaid : Prop := packBackUptoRow.holds Try.pinned (OpenSpec.upto packBackSpec)

/-- 'broughamlaw02.PackGets', WHERE WHAT IT READS IS OF BULK AT MOST 1048576: true; the input reads as it did. -/
def packGetsUptoRow : OpenClaim := { program := "ytjmebloeodcoaaa", sum := "263c4b1595d0ee4d17bfe061257bf0f2c60bd713785eea0668c0a0c08c745cc8", func := "brougham/broughamlaw02.PackGets", spec := "packGets", apart := false, narrowed := true }
def PackGetsUptoSaid : Prop := packGetsUptoRow.holds Try.pinned (OpenSpec.upto packGetsSpec)

/-- 'broughamlaw02.PackPuts', WHERE WHAT IT READS IS OF BULK AT MOST 1048576: true; the input reads as it did. -/
def packPutsUptoRow : OpenClaim := { program := "ytjmebloeodcoaaa", sum := "263c4b1595d0ee4d17bfe061257bf0f2c60bd713785eea0668c0a0c08c745cc8", func := "brougham/broughamlaw02.PackPuts", spec := "packPuts", recurses := true, apart := false, narrowed := true }
def PackPutsUptoSaid : Prop := packPutsUptoRow.holds Try.pinned (OpenSpec.upto packPutsSpec)

end Rows
end Go.Proofs.Ytjmebloeodcoaaa
