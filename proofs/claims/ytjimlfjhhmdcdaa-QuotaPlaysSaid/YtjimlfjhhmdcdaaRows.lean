/-
  No cell of these rows narrows 'for every input' (looked for: loops, veiled, ifaces, maps, wideKeys, modest, calm, conditions, laid).
  DERIVED. THE GIVEN ROWS OF THIS SEAT. 10 by the template 'for every input the law returns true; each argument reads behind the call as it read before'; 0 by the template 'total and deterministic' (their statements: YtjimlfjhhmdcdaaTotals.lean).
  GIVEN WITH THE SEED: the statements are not yours to turn. If you find one false, say at which input.
  Laid BY PROGRAM, IN A SANDBOX (cutbox-rows.mjs): the forced cells as the released guide's own fill.sh prints them over the translation a0c09b1881b28372… (all of the seat's roots in one cut). By AI agents, Wed Nov 11 2026. No macro, syntax, notation, axiom, sorry.
-/
import Derived.Test.YtjimlfjhhmdcdaaChecked
import GoSem.Claim
import GoSem.ClaimJoined
import GoSem.ClaimMapViews
import Derived.JoinedTies
import Derived.KernelRfl
namespace Go.Proofs.Ytjimlfjhhmdcdaa
/- THE CELL 'sum', in the pinned program and in every row, IS THE sha256 OF THE DUMP (.gsa) THAT YtjimlfjhhmdcdaaProg.lean LOADS. Nothing in Lean hashes anything: it is a label: what it is worth is what the hold of that sum in a sandbox is worth. -/
noncomputable def Try.pinned : Pinned := { name := "ytjimlfjhhmdcdaa", sum := "a0c09b1881b28372d5d98dbb6cb5da4dd11875cb68673ea9334db84e373c9f80", checked := Try.checked }
namespace Rows
def none {H : Type} : Left H := { results := [], args := [] }

/-- 'broughamlaw39.QuotaBounds': WHATEVER THE INPUT: true; the input reads as it did. -/
def quotaBoundsSpec : ChangeSpec := { name := "quotaBounds", fn := fun _ => fun
  | [d1, d2, d3] => { results := [.lit (.bool true)], args := [d1, d2, d3] }
  | _ => none }
def quotaBoundsRow : OpenClaim := { program := "ytjimlfjhhmdcdaa", sum := "a0c09b1881b28372d5d98dbb6cb5da4dd11875cb68673ea9334db84e373c9f80", func := "brougham/broughamlaw39.QuotaBounds", spec := "quotaBounds", apart := false }
def QuotaBoundsSaid : Prop := quotaBoundsRow.holds Try.pinned (OpenSpec.ofChange quotaBoundsSpec)

/-- ITS FALSE NEIGHBOUR: 'it returns false'. Refute it at one input. -/
def quotaBoundsWrong : ChangeSpec := { name := "quotaBounds", fn := fun _ => fun
  | [d1, d2, d3] => { results := [.lit (.bool false)], args := [d1, d2, d3] }
  | _ => none }
def QuotaBoundsWrongFalsely : Prop := quotaBoundsRow.holds Try.pinned (OpenSpec.ofChange quotaBoundsWrong)

/-- 'broughamlaw43.VarintWrites': WHATEVER THE INPUT: true; the input reads as it did. -/
def varintWritesSpec : ChangeSpec := { name := "varintWrites", fn := fun _ => fun
  | [d1, d2] => { results := [.lit (.bool true)], args := [d1, d2] }
  | _ => none }
def varintWritesRow : OpenClaim := { program := "ytjimlfjhhmdcdaa", sum := "a0c09b1881b28372d5d98dbb6cb5da4dd11875cb68673ea9334db84e373c9f80", func := "brougham/broughamlaw43.VarintWrites", spec := "varintWrites", recurses := true, apart := false }
def VarintWritesSaid : Prop := varintWritesRow.holds Try.pinned (OpenSpec.ofChange varintWritesSpec)

/-- ITS FALSE NEIGHBOUR: 'it returns false'. Refute it at one input. -/
def varintWritesWrong : ChangeSpec := { name := "varintWrites", fn := fun _ => fun
  | [d1, d2] => { results := [.lit (.bool false)], args := [d1, d2] }
  | _ => none }
def VarintWritesWrongFalsely : Prop := varintWritesRow.holds Try.pinned (OpenSpec.ofChange varintWritesWrong)

/-- 'broughamlaw43.VarintReads': WHATEVER THE INPUT: true; the input reads as it did. -/
def varintReadsSpec : ChangeSpec := { name := "varintReads", fn := fun _ => fun
  | [d] => { results := [.lit (.bool true)], args := [d] }
  | _ => none }
def varintReadsRow : OpenClaim := { program := "ytjimlfjhhmdcdaa", sum := "a0c09b1881b28372d5d98dbb6cb5da4dd11875cb68673ea9334db84e373c9f80", func := "brougham/broughamlaw43.VarintReads", spec := "varintReads", recurses := true, apart := false }
def VarintReadsSaid : Prop := varintReadsRow.holds Try.pinned (OpenSpec.ofChange varintReadsSpec)

/-- ITS FALSE NEIGHBOUR: 'it returns false'. Refute it at one input. -/
def varintReadsWrong : ChangeSpec := { name := "varintReads", fn := fun _ => fun
  | [d] => { results := [.lit (.bool false)], args := [d] }
  | _ => none }
def VarintReadsWrongFalsely : Prop := varintReadsRow.holds Try.pinned (OpenSpec.ofChange varintReadsWrong)

/-- 'broughamlaw39.QuotaPlays': WHATEVER THE INPUT: true; the input reads as it did. -/
def quotaPlaysSpec : ChangeSpec := { name := "quotaPlays", fn := fun _ => fun
  | [d1, d2, d3] => { results := [.lit (.bool true)], args := [d1, d2, d3] }
  | _ => none }
def quotaPlaysRow : OpenClaim := { program := "ytjimlfjhhmdcdaa", sum := "a0c09b1881b28372d5d98dbb6cb5da4dd11875cb68673ea9334db84e373c9f80", func := "brougham/broughamlaw39.QuotaPlays", spec := "quotaPlays", apart := false }
def QuotaPlaysSaid : Prop := quotaPlaysRow.holds Try.pinned (OpenSpec.ofChange quotaPlaysSpec)

/-- ITS FALSE NEIGHBOUR: 'it returns false'. Refute it at one input. -/
def quotaPlaysWrong : ChangeSpec := { name := "quotaPlays", fn := fun _ => fun
  | [d1, d2, d3] => { results := [.lit (.bool false)], args := [d1, d2, d3] }
  | _ => none }
def QuotaPlaysWrongFalsely : Prop := quotaPlaysRow.holds Try.pinned (OpenSpec.ofChange quotaPlaysWrong)

/-- 'broughamlaw13.CwndAlpha': WHATEVER THE INPUT: true; the input reads as it did. -/
def cwndAlphaSpec : ChangeSpec := { name := "cwndAlpha", fn := fun _ => fun
  | [d] => { results := [.lit (.bool true)], args := [d] }
  | _ => none }
def cwndAlphaRow : OpenClaim := { program := "ytjimlfjhhmdcdaa", sum := "a0c09b1881b28372d5d98dbb6cb5da4dd11875cb68673ea9334db84e373c9f80", func := "brougham/broughamlaw13.CwndAlpha", spec := "cwndAlpha", apart := false }
def CwndAlphaSaid : Prop := cwndAlphaRow.holds Try.pinned (OpenSpec.ofChange cwndAlphaSpec)

/-- ITS FALSE NEIGHBOUR: 'it returns false'. Refute it at one input. -/
def cwndAlphaWrong : ChangeSpec := { name := "cwndAlpha", fn := fun _ => fun
  | [d] => { results := [.lit (.bool false)], args := [d] }
  | _ => none }
def CwndAlphaWrongFalsely : Prop := cwndAlphaRow.holds Try.pinned (OpenSpec.ofChange cwndAlphaWrong)

/-- 'broughamlaw13.CwndSlow': WHATEVER THE INPUT: true; the input reads as it did. -/
def cwndSlowSpec : ChangeSpec := { name := "cwndSlow", fn := fun _ => fun
  | [d1, d2, d3] => { results := [.lit (.bool true)], args := [d1, d2, d3] }
  | _ => none }
def cwndSlowRow : OpenClaim := { program := "ytjimlfjhhmdcdaa", sum := "a0c09b1881b28372d5d98dbb6cb5da4dd11875cb68673ea9334db84e373c9f80", func := "brougham/broughamlaw13.CwndSlow", spec := "cwndSlow", apart := false }
def CwndSlowSaid : Prop := cwndSlowRow.holds Try.pinned (OpenSpec.ofChange cwndSlowSpec)

/-- ITS FALSE NEIGHBOUR: 'it returns false'. Refute it at one input. -/
def cwndSlowWrong : ChangeSpec := { name := "cwndSlow", fn := fun _ => fun
  | [d1, d2, d3] => { results := [.lit (.bool false)], args := [d1, d2, d3] }
  | _ => none }
def CwndSlowWrongFalsely : Prop := cwndSlowRow.holds Try.pinned (OpenSpec.ofChange cwndSlowWrong)

/-- 'broughamlaw13.CwndPlays': WHATEVER THE INPUT: true; the input reads as it did. -/
def cwndPlaysSpec : ChangeSpec := { name := "cwndPlays", fn := fun _ => fun
  | [d1, d2] => { results := [.lit (.bool true)], args := [d1, d2] }
  | _ => none }
def cwndPlaysRow : OpenClaim := { program := "ytjimlfjhhmdcdaa", sum := "a0c09b1881b28372d5d98dbb6cb5da4dd11875cb68673ea9334db84e373c9f80", func := "brougham/broughamlaw13.CwndPlays", spec := "cwndPlays", apart := false }
def CwndPlaysSaid : Prop := cwndPlaysRow.holds Try.pinned (OpenSpec.ofChange cwndPlaysSpec)

/-- ITS FALSE NEIGHBOUR: 'it returns false'. Refute it at one input. -/
def cwndPlaysWrong : ChangeSpec := { name := "cwndPlays", fn := fun _ => fun
  | [d1, d2] => { results := [.lit (.bool false)], args := [d1, d2] }
  | _ => none }
def CwndPlaysWrongFalsely : Prop := cwndPlaysRow.holds Try.pinned (OpenSpec.ofChange cwndPlaysWrong)

/-- 'broughamlaw03.SipSums': WHATEVER THE INPUT: true; the input reads as it did. -/
def sipSumsSpec : ChangeSpec := { name := "sipSums", fn := fun _ => fun
  | [d1, d2] => { results := [.lit (.bool true)], args := [d1, d2] }
  | _ => none }
def sipSumsRow : OpenClaim := { program := "ytjimlfjhhmdcdaa", sum := "a0c09b1881b28372d5d98dbb6cb5da4dd11875cb68673ea9334db84e373c9f80", func := "brougham/broughamlaw03.SipSums", spec := "sipSums", apart := false }
def SipSumsSaid : Prop := sipSumsRow.holds Try.pinned (OpenSpec.ofChange sipSumsSpec)

/-- ITS FALSE NEIGHBOUR: 'it returns false'. Refute it at one input. -/
def sipSumsWrong : ChangeSpec := { name := "sipSums", fn := fun _ => fun
  | [d1, d2] => { results := [.lit (.bool false)], args := [d1, d2] }
  | _ => none }
def SipSumsWrongFalsely : Prop := sipSumsRow.holds Try.pinned (OpenSpec.ofChange sipSumsWrong)

/-- 'broughamlaw03.SipParts': WHATEVER THE INPUT: true; the input reads as it did. -/
def sipPartsSpec : ChangeSpec := { name := "sipParts", fn := fun _ => fun
  | [d1, d2] => { results := [.lit (.bool true)], args := [d1, d2] }
  | _ => none }
def sipPartsRow : OpenClaim := { program := "ytjimlfjhhmdcdaa", sum := "a0c09b1881b28372d5d98dbb6cb5da4dd11875cb68673ea9334db84e373c9f80", func := "brougham/broughamlaw03.SipParts", spec := "sipParts", apart := false }
def SipPartsSaid : Prop := sipPartsRow.holds Try.pinned (OpenSpec.ofChange sipPartsSpec)

/-- ITS FALSE NEIGHBOUR: 'it returns false'. Refute it at one input. -/
def sipPartsWrong : ChangeSpec := { name := "sipParts", fn := fun _ => fun
  | [d1, d2] => { results := [.lit (.bool false)], args := [d1, d2] }
  | _ => none }
def SipPartsWrongFalsely : Prop := sipPartsRow.holds Try.pinned (OpenSpec.ofChange sipPartsWrong)

/-- 'broughamlaw43.VarintBack': WHATEVER THE INPUT: true; the input reads as it did. -/
def varintBackSpec : ChangeSpec := { name := "varintBack", fn := fun _ => fun
  | [d1, d2] => { results := [.lit (.bool true)], args := [d1, d2] }
  | _ => none }
def varintBackRow : OpenClaim := { program := "ytjimlfjhhmdcdaa", sum := "a0c09b1881b28372d5d98dbb6cb5da4dd11875cb68673ea9334db84e373c9f80", func := "brougham/broughamlaw43.VarintBack", spec := "varintBack", apart := false }
def VarintBackSaid : Prop := varintBackRow.holds Try.pinned (OpenSpec.ofChange varintBackSpec)

/-- ITS FALSE NEIGHBOUR: 'it returns false'. Refute it at one input. -/
def varintBackWrong : ChangeSpec := { name := "varintBack", fn := fun _ => fun
  | [d1, d2] => { results := [.lit (.bool false)], args := [d1, d2] }
  | _ => none }
def VarintBackWrongFalsely : Prop := varintBackRow.holds Try.pinned (OpenSpec.ofChange varintBackWrong)

/- THE SECOND FORM. 'bulk': how many values and letters a reading holds, each counted each time it is reached (what is shared counts as often as it is met; a slice's spare places count too). A statement '..UptoSaid' is the law's where the arguments, and the package variables that the reading takes, are together of bulk at most 1048576: NARROWER than '..Said'. Prove '..Said' where nothing that the law and all that it calls make is longer than what came in: it says more and counts as full. Else prove '..UptoSaid'. A law counts once. -/
mutual
def uptoBulk {H : Type} : DataW H → Nat
  | .lit (.string bytes) => bytes.length + 1
  | .lit _ => 1
  | .nil => 1
  | .ptr d => uptoBulk d + 1
  | .slice elems spare => uptoBulkAll elems + uptoBulkAll spare + 1
  | .agg parts => uptoBulkAll parts + 1
  | .iface _ d => uptoBulk d + 1
  | .map entries => uptoBulkEntries entries + 1
  | .held _ => 1
def uptoBulkAll {H : Type} : List (DataW H) → Nat
  | [] => 0
  | d :: r => uptoBulk d + uptoBulkAll r
def uptoBulkEntries {H : Type} : List (Lit × DataW H) → Nat
  | [] => 0
  | x :: r => uptoBulkEntry x + uptoBulkEntries r
def uptoBulkEntry {H : Type} : Lit × DataW H → Nat
  | (.string bytes, d) => bytes.length + uptoBulk d + 1
  | (_, d) => uptoBulk d + 1
 end
def uptoSmall : (H : Type) → List (DataW H) → Bool := fun _ ds => decide (uptoBulkAll ds ≤ 1048576)
def OpenSpec.upto (s : _root_.Go.ChangeSpec) : _root_.Go.OpenSpec := { _root_.Go.OpenSpec.ofChange s with cond := some uptoSmall }

/-- 'broughamlaw39.QuotaBounds', WHERE WHAT IT READS IS OF BULK AT MOST 1048576: true; the input reads as it did. -/
def quotaBoundsUptoRow : OpenClaim := { program := "ytjimlfjhhmdcdaa", sum := "a0c09b1881b28372d5d98dbb6cb5da4dd11875cb68673ea9334db84e373c9f80", func := "brougham/broughamlaw39.QuotaBounds", spec := "quotaBounds", apart := false, narrowed := true }
def QuotaBoundsUptoSaid : Prop := quotaBoundsUptoRow.holds Try.pinned (OpenSpec.upto quotaBoundsSpec)

/-- 'broughamlaw43.VarintWrites', WHERE WHAT IT READS IS OF BULK AT MOST 1048576: true; the input reads as it did. -/
def varintWritesUptoRow : OpenClaim := { program := "ytjimlfjhhmdcdaa", sum := "a0c09b1881b28372d5d98dbb6cb5da4dd11875cb68673ea9334db84e373c9f80", func := "brougham/broughamlaw43.VarintWrites", spec := "varintWrites", recurses := true, apart := false, narrowed := true }
def VarintWritesUptoSaid : Prop := varintWritesUptoRow.holds Try.pinned (OpenSpec.upto varintWritesSpec)

/-- 'broughamlaw43.VarintReads', WHERE WHAT IT READS IS OF BULK AT MOST 1048576: true; the input reads as it did. -/
def varintReadsUptoRow : OpenClaim := { program := "ytjimlfjhhmdcdaa", sum := "a0c09b1881b28372d5d98dbb6cb5da4dd11875cb68673ea9334db84e373c9f80", func := "brougham/broughamlaw43.VarintReads", spec := "varintReads", recurses := true, apart := false, narrowed := true }
def VarintReadsUptoSaid : Prop := varintReadsUptoRow.holds Try.pinned (OpenSpec.upto varintReadsSpec)

/-- 'broughamlaw39.QuotaPlays', WHERE WHAT IT READS IS OF BULK AT MOST 1048576: true; the input reads as it did. -/
def quotaPlaysUptoRow : OpenClaim := { program := "ytjimlfjhhmdcdaa", sum := "a0c09b1881b28372d5d98dbb6cb5da4dd11875cb68673ea9334db84e373c9f80", func := "brougham/broughamlaw39.QuotaPlays", spec := "quotaPlays", apart := false, narrowed := true }
def QuotaPlaysUptoSaid : Prop := quotaPlaysUptoRow.holds Try.pinned (OpenSpec.upto quotaPlaysSpec)

/-- 'broughamlaw13.CwndAlpha', WHERE WHAT IT READS IS OF BULK AT MOST 1048576: true; the input reads as it did. -/
def cwndAlphaUptoRow : OpenClaim := { program := "ytjimlfjhhmdcdaa", sum := "a0c09b1881b28372d5d98dbb6cb5da4dd11875cb68673ea9334db84e373c9f80", func := "brougham/broughamlaw13.CwndAlpha", spec := "cwndAlpha", apart := false, narrowed := true }
def CwndAlphaUptoSaid : Prop := cwndAlphaUptoRow.holds Try.pinned (OpenSpec.upto cwndAlphaSpec)

/-- 'broughamlaw13.CwndSlow', WHERE WHAT IT READS IS OF BULK AT MOST 1048576: true; the input reads as it did. -/
def cwndSlowUptoRow : OpenClaim := { program := "ytjimlfjhhmdcdaa", sum := "a0c09b1881b28372d5d98dbb6cb5da4dd11875cb68673ea9334db84e373c9f80", func := "brougham/broughamlaw13.CwndSlow", spec := "cwndSlow", apart := false, narrowed := true }
def CwndSlowUptoSaid : Prop := cwndSlowUptoRow.holds Try.pinned (OpenSpec.upto cwndSlowSpec)

/-- 'broughamlaw13.CwndPlays', WHERE WHAT IT READS IS OF BULK AT MOST 1048576: true; the input reads as it did. -/
def cwndPlaysUptoRow : OpenClaim := { program := "ytjimlfjhhmdcdaa", sum := "a0c09b1881b28372d5d98dbb6cb5da4dd11875cb68673ea9334db84e373c9f80", func := "brougham/broughamlaw13.CwndPlays", spec := "cwndPlays", apart := false, narrowed := true }
def CwndPlaysUptoSaid : Prop := cwndPlaysUptoRow.holds Try.pinned (OpenSpec.upto cwndPlaysSpec)

/-- 'broughamlaw03.SipSums', WHERE WHAT IT READS IS OF BULK AT MOST 1048576: true; the input reads as it did. -/
def sipSumsUptoRow : OpenClaim := { program := "ytjimlfjhhmdcdaa", sum := "a0c09b1881b28372d5d98dbb6cb5da4dd11875cb68673ea9334db84e373c9f80", func := "brougham/broughamlaw03.SipSums", spec := "sipSums", apart := false, narrowed := true }
def SipSumsUptoSaid : Prop := sipSumsUptoRow.holds Try.pinned (OpenSpec.upto sipSumsSpec)

/-- 'broughamlaw03.SipParts', WHERE WHAT IT READS IS OF BULK AT MOST 1048576: true; the input reads as it did. -/
def sipPartsUptoRow : OpenClaim := { program := "ytjimlfjhhmdcdaa", sum := "a0c09b1881b28372d5d98dbb6cb5da4dd11875cb68673ea9334db84e373c9f80", func := "brougham/broughamlaw03.SipParts", spec := "sipParts", apart := false, narrowed := true }
def SipPartsUptoSaid : Prop := sipPartsUptoRow.holds Try.pinned (OpenSpec.upto sipPartsSpec)

/-- 'broughamlaw43.VarintBack', WHERE WHAT IT READS IS OF BULK AT MOST 1048576: true; the input reads as it did. -/
def varintBackUptoRow : OpenClaim := { program := "ytjimlfjhhmdcdaa", sum := "a0c09b1881b28372d5d98dbb6cb5da4dd11875cb68673ea9334db84e373c9f80", func := "brougham/broughamlaw43.VarintBack", spec := "varintBack", apart := false, narrowed := true }
def VarintBackUptoSaid : Prop := varintBackUptoRow.holds Try.pinned (OpenSpec.upto varintBackSpec)

end Rows
end Go.Proofs.Ytjimlfjhhmdcdaa
