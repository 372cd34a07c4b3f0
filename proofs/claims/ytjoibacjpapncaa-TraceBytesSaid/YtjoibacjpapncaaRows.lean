/-
  No cell of these rows narrows 'for every input' (looked for: loops, veiled, ifaces, maps, wideKeys, modest, calm, conditions, laid).
  DERIVED. THE GIVEN ROWS OF THIS SEAT. 12 by the template 'for every input the law returns true; each argument reads behind the call as it read before'; 0 by the template 'total and deterministic' (their statements: YtjoibacjpapncaaTotals.lean).
  GIVEN WITH THE SEED: the statements are not yours to turn. If you find one false, say at which input.
  Laid BY PROGRAM, IN A SANDBOX (cutbox-rows.mjs): the forced cells as the released guide's own fill.sh prints them over the translation 039ee8ffc9efa383… (all of the seat's roots in one cut). By AI agents, Wed Nov 11 2026. No macro, syntax, notation, axiom, sorry.
-/
import Derived.Test.YtjoibacjpapncaaChecked
import GoSem.Claim
import GoSem.ClaimJoined
import GoSem.ClaimMapViews
import Derived.JoinedTies
import Derived.KernelRfl
namespace Go.Proofs.Ytjoibacjpapncaa
/- THE CELL 'sum', in the pinned program and in every row, IS THE sha256 OF THE DUMP (.gsa) THAT YtjoibacjpapncaaProg.lean LOADS. Nothing in Lean hashes anything: it is a label: what it is worth is what the hold of that sum in a sandbox is worth. -/
noncomputable def Try.pinned : Pinned := { name := "ytjoibacjpapncaa", sum := "039ee8ffc9efa383a0ffaa913da5dfb7719693c1eceb2ccad243a52ba0d0ea7c", checked := Try.checked }
namespace Rows
def none {H : Type} : Left H := { results := [], args := [] }

/-- 'broughamlaw30.CookieBack': WHATEVER THE INPUT: true; the input reads as it did. -/
def cookieBackSpec : ChangeSpec := { name := "cookieBack", fn := fun _ => fun
  | [d1, d2, d3] => { results := [.lit (.bool true)], args := [d1, d2, d3] }
  | _ => none }
def cookieBackRow : OpenClaim := { program := "ytjoibacjpapncaa", sum := "039ee8ffc9efa383a0ffaa913da5dfb7719693c1eceb2ccad243a52ba0d0ea7c", func := "brougham/broughamlaw30.CookieBack", spec := "cookieBack", apart := false }
def CookieBackSaid : Prop := cookieBackRow.holds Try.pinned (OpenSpec.ofChange cookieBackSpec)

/-- ITS FALSE NEIGHBOUR: 'it returns false'. Refute it at one input. -/
def cookieBackWrong : ChangeSpec := { name := "cookieBack", fn := fun _ => fun
  | [d1, d2, d3] => { results := [.lit (.bool false)], args := [d1, d2, d3] }
  | _ => none }
def CookieBackWrongFalsely : Prop := cookieBackRow.holds Try.pinned (OpenSpec.ofChange cookieBackWrong)

/-- 'broughamlaw34.CaptureWrites': WHATEVER THE INPUT: true; the input reads as it did. -/
def captureWritesSpec : ChangeSpec := { name := "captureWrites", fn := fun _ => fun
  | [d1, d2] => { results := [.lit (.bool true)], args := [d1, d2] }
  | _ => none }
def captureWritesRow : OpenClaim := { program := "ytjoibacjpapncaa", sum := "039ee8ffc9efa383a0ffaa913da5dfb7719693c1eceb2ccad243a52ba0d0ea7c", func := "brougham/broughamlaw34.CaptureWrites", spec := "captureWrites", recurses := true, apart := false }
def CaptureWritesSaid : Prop := captureWritesRow.holds Try.pinned (OpenSpec.ofChange captureWritesSpec)

/-- ITS FALSE NEIGHBOUR: 'it returns false'. Refute it at one input. -/
def captureWritesWrong : ChangeSpec := { name := "captureWrites", fn := fun _ => fun
  | [d1, d2] => { results := [.lit (.bool false)], args := [d1, d2] }
  | _ => none }
def CaptureWritesWrongFalsely : Prop := captureWritesRow.holds Try.pinned (OpenSpec.ofChange captureWritesWrong)

/-- 'broughamlaw34.CaptureReads': WHATEVER THE INPUT: true; the input reads as it did. -/
def captureReadsSpec : ChangeSpec := { name := "captureReads", fn := fun _ => fun
  | [d] => { results := [.lit (.bool true)], args := [d] }
  | _ => none }
def captureReadsRow : OpenClaim := { program := "ytjoibacjpapncaa", sum := "039ee8ffc9efa383a0ffaa913da5dfb7719693c1eceb2ccad243a52ba0d0ea7c", func := "brougham/broughamlaw34.CaptureReads", spec := "captureReads", recurses := true, apart := false }
def CaptureReadsSaid : Prop := captureReadsRow.holds Try.pinned (OpenSpec.ofChange captureReadsSpec)

/-- ITS FALSE NEIGHBOUR: 'it returns false'. Refute it at one input. -/
def captureReadsWrong : ChangeSpec := { name := "captureReads", fn := fun _ => fun
  | [d] => { results := [.lit (.bool false)], args := [d] }
  | _ => none }
def CaptureReadsWrongFalsely : Prop := captureReadsRow.holds Try.pinned (OpenSpec.ofChange captureReadsWrong)

/-- 'broughamlaw34.CaptureBack': WHATEVER THE INPUT: true; the input reads as it did. -/
def captureBackSpec : ChangeSpec := { name := "captureBack", fn := fun _ => fun
  | [d1, d2] => { results := [.lit (.bool true)], args := [d1, d2] }
  | _ => none }
def captureBackRow : OpenClaim := { program := "ytjoibacjpapncaa", sum := "039ee8ffc9efa383a0ffaa913da5dfb7719693c1eceb2ccad243a52ba0d0ea7c", func := "brougham/broughamlaw34.CaptureBack", spec := "captureBack", apart := false }
def CaptureBackSaid : Prop := captureBackRow.holds Try.pinned (OpenSpec.ofChange captureBackSpec)

/-- ITS FALSE NEIGHBOUR: 'it returns false'. Refute it at one input. -/
def captureBackWrong : ChangeSpec := { name := "captureBack", fn := fun _ => fun
  | [d1, d2] => { results := [.lit (.bool false)], args := [d1, d2] }
  | _ => none }
def CaptureBackWrongFalsely : Prop := captureBackRow.holds Try.pinned (OpenSpec.ofChange captureBackWrong)

/-- 'broughamlaw31.SackPlays': WHATEVER THE INPUT: true; the input reads as it did. -/
def sackPlaysSpec : ChangeSpec := { name := "sackPlays", fn := fun _ => fun
  | [d1, d2, d3] => { results := [.lit (.bool true)], args := [d1, d2, d3] }
  | _ => none }
def sackPlaysRow : OpenClaim := { program := "ytjoibacjpapncaa", sum := "039ee8ffc9efa383a0ffaa913da5dfb7719693c1eceb2ccad243a52ba0d0ea7c", func := "brougham/broughamlaw31.SackPlays", spec := "sackPlays", recurses := true, apart := false }
def SackPlaysSaid : Prop := sackPlaysRow.holds Try.pinned (OpenSpec.ofChange sackPlaysSpec)

/-- ITS FALSE NEIGHBOUR: 'it returns false'. Refute it at one input. -/
def sackPlaysWrong : ChangeSpec := { name := "sackPlays", fn := fun _ => fun
  | [d1, d2, d3] => { results := [.lit (.bool false)], args := [d1, d2, d3] }
  | _ => none }
def SackPlaysWrongFalsely : Prop := sackPlaysRow.holds Try.pinned (OpenSpec.ofChange sackPlaysWrong)

/-- 'broughamlaw34.CaptureMerges': WHATEVER THE INPUT: true; the input reads as it did. -/
def captureMergesSpec : ChangeSpec := { name := "captureMerges", fn := fun _ => fun
  | [d1, d2, d3] => { results := [.lit (.bool true)], args := [d1, d2, d3] }
  | _ => none }
def captureMergesRow : OpenClaim := { program := "ytjoibacjpapncaa", sum := "039ee8ffc9efa383a0ffaa913da5dfb7719693c1eceb2ccad243a52ba0d0ea7c", func := "brougham/broughamlaw34.CaptureMerges", spec := "captureMerges", apart := false }
def CaptureMergesSaid : Prop := captureMergesRow.holds Try.pinned (OpenSpec.ofChange captureMergesSpec)

/-- ITS FALSE NEIGHBOUR: 'it returns false'. Refute it at one input. -/
def captureMergesWrong : ChangeSpec := { name := "captureMerges", fn := fun _ => fun
  | [d1, d2, d3] => { results := [.lit (.bool false)], args := [d1, d2, d3] }
  | _ => none }
def CaptureMergesWrongFalsely : Prop := captureMergesRow.holds Try.pinned (OpenSpec.ofChange captureMergesWrong)

/-- 'broughamlaw31.SackSays': WHATEVER THE INPUT: true; the input reads as it did. -/
def sackSaysSpec : ChangeSpec := { name := "sackSays", fn := fun _ => fun
  | [d1, d2, d3] => { results := [.lit (.bool true)], args := [d1, d2, d3] }
  | _ => none }
def sackSaysRow : OpenClaim := { program := "ytjoibacjpapncaa", sum := "039ee8ffc9efa383a0ffaa913da5dfb7719693c1eceb2ccad243a52ba0d0ea7c", func := "brougham/broughamlaw31.SackSays", spec := "sackSays", recurses := true, apart := false }
def SackSaysSaid : Prop := sackSaysRow.holds Try.pinned (OpenSpec.ofChange sackSaysSpec)

/-- ITS FALSE NEIGHBOUR: 'it returns false'. Refute it at one input. -/
def sackSaysWrong : ChangeSpec := { name := "sackSays", fn := fun _ => fun
  | [d1, d2, d3] => { results := [.lit (.bool false)], args := [d1, d2, d3] }
  | _ => none }
def SackSaysWrongFalsely : Prop := sackSaysRow.holds Try.pinned (OpenSpec.ofChange sackSaysWrong)

/-- 'broughamlaw31.SackBack': WHATEVER THE INPUT: true; the input reads as it did. -/
def sackBackSpec : ChangeSpec := { name := "sackBack", fn := fun _ => fun
  | [d1, d2, d3] => { results := [.lit (.bool true)], args := [d1, d2, d3] }
  | _ => none }
def sackBackRow : OpenClaim := { program := "ytjoibacjpapncaa", sum := "039ee8ffc9efa383a0ffaa913da5dfb7719693c1eceb2ccad243a52ba0d0ea7c", func := "brougham/broughamlaw31.SackBack", spec := "sackBack", apart := false }
def SackBackSaid : Prop := sackBackRow.holds Try.pinned (OpenSpec.ofChange sackBackSpec)

/-- ITS FALSE NEIGHBOUR: 'it returns false'. Refute it at one input. -/
def sackBackWrong : ChangeSpec := { name := "sackBack", fn := fun _ => fun
  | [d1, d2, d3] => { results := [.lit (.bool false)], args := [d1, d2, d3] }
  | _ => none }
def SackBackWrongFalsely : Prop := sackBackRow.holds Try.pinned (OpenSpec.ofChange sackBackWrong)

/-- 'broughamlaw40.TableKeys': WHATEVER THE INPUT: true; the input reads as it did. -/
def tableKeysSpec : ChangeSpec := { name := "tableKeys", fn := fun _ => fun
  | [d1, d2, d3] => { results := [.lit (.bool true)], args := [d1, d2, d3] }
  | _ => none }
def tableKeysRow : OpenClaim := { program := "ytjoibacjpapncaa", sum := "039ee8ffc9efa383a0ffaa913da5dfb7719693c1eceb2ccad243a52ba0d0ea7c", func := "brougham/broughamlaw40.TableKeys", spec := "tableKeys", apart := false }
def TableKeysSaid : Prop := tableKeysRow.holds Try.pinned (OpenSpec.ofChange tableKeysSpec)

/-- ITS FALSE NEIGHBOUR: 'it returns false'. Refute it at one input. -/
def tableKeysWrong : ChangeSpec := { name := "tableKeys", fn := fun _ => fun
  | [d1, d2, d3] => { results := [.lit (.bool false)], args := [d1, d2, d3] }
  | _ => none }
def TableKeysWrongFalsely : Prop := tableKeysRow.holds Try.pinned (OpenSpec.ofChange tableKeysWrong)

/-- 'broughamlaw40.TablePlays': WHATEVER THE INPUT: true; the input reads as it did. -/
def tablePlaysSpec : ChangeSpec := { name := "tablePlays", fn := fun _ => fun
  | [d1, d2, d3] => { results := [.lit (.bool true)], args := [d1, d2, d3] }
  | _ => none }
def tablePlaysRow : OpenClaim := { program := "ytjoibacjpapncaa", sum := "039ee8ffc9efa383a0ffaa913da5dfb7719693c1eceb2ccad243a52ba0d0ea7c", func := "brougham/broughamlaw40.TablePlays", spec := "tablePlays", apart := false }
def TablePlaysSaid : Prop := tablePlaysRow.holds Try.pinned (OpenSpec.ofChange tablePlaysSpec)

/-- ITS FALSE NEIGHBOUR: 'it returns false'. Refute it at one input. -/
def tablePlaysWrong : ChangeSpec := { name := "tablePlays", fn := fun _ => fun
  | [d1, d2, d3] => { results := [.lit (.bool false)], args := [d1, d2, d3] }
  | _ => none }
def TablePlaysWrongFalsely : Prop := tablePlaysRow.holds Try.pinned (OpenSpec.ofChange tablePlaysWrong)

/-- 'broughamlaw26.TraceSays': WHATEVER THE INPUT: true; the input reads as it did. -/
def traceSaysSpec : ChangeSpec := { name := "traceSays", fn := fun _ => fun
  | [d1, d2] => { results := [.lit (.bool true)], args := [d1, d2] }
  | _ => none }
def traceSaysRow : OpenClaim := { program := "ytjoibacjpapncaa", sum := "039ee8ffc9efa383a0ffaa913da5dfb7719693c1eceb2ccad243a52ba0d0ea7c", func := "brougham/broughamlaw26.TraceSays", spec := "traceSays", inPlace := ["internal/abi.NoEscape", "internal/bytealg.MakeNoZero"], recurses := true, apart := false }
def TraceSaysSaid : Prop := traceSaysRow.holds Try.pinned (OpenSpec.ofChange traceSaysSpec)

/-- ITS FALSE NEIGHBOUR: 'it returns false'. Refute it at one input. -/
def traceSaysWrong : ChangeSpec := { name := "traceSays", fn := fun _ => fun
  | [d1, d2] => { results := [.lit (.bool false)], args := [d1, d2] }
  | _ => none }
def TraceSaysWrongFalsely : Prop := traceSaysRow.holds Try.pinned (OpenSpec.ofChange traceSaysWrong)

/-- 'broughamlaw26.TraceBytes': WHATEVER THE INPUT: true; the input reads as it did. -/
def traceBytesSpec : ChangeSpec := { name := "traceBytes", fn := fun _ => fun
  | [d1, d2] => { results := [.lit (.bool true)], args := [d1, d2] }
  | _ => none }
def traceBytesRow : OpenClaim := { program := "ytjoibacjpapncaa", sum := "039ee8ffc9efa383a0ffaa913da5dfb7719693c1eceb2ccad243a52ba0d0ea7c", func := "brougham/broughamlaw26.TraceBytes", spec := "traceBytes", inPlace := ["internal/abi.NoEscape", "internal/bytealg.MakeNoZero"], recurses := true, apart := false }
def TraceBytesSaid : Prop := traceBytesRow.holds Try.pinned (OpenSpec.ofChange traceBytesSpec)

/-- ITS FALSE NEIGHBOUR: 'it returns false'. Refute it at one input. -/
def traceBytesWrong : ChangeSpec := { name := "traceBytes", fn := fun _ => fun
  | [d1, d2] => { results := [.lit (.bool false)], args := [d1, d2] }
  | _ => none }
def TraceBytesWrongFalsely : Prop := traceBytesRow.holds Try.pinned (OpenSpec.ofChange traceBytesWrong)

/- THE SECOND FORM. 'bulk': how many values and letters a reading holds, each counted each time it is reached (what is shared counts as often as it is met; a slice's spare places count too). A statement '..UptoSaid' is the law's where the arguments, and the package variables that the reading takes, are together of bulk at most 1048576: NARROWER than '..Said'. Prove '..Said' where nothing that the law and all that it calls make is longer than what came in: it says more and counts as full. Else prove '..UptoSaid'. A law counts once. -/
mutual
def uptoBulk {H : Type} : DataW H → Nat
  | .lit (.string bytes) => bytes.length + 1
  | .lit _ => 1
  | .nil => 1
  | .ptr d => uptoBulk d + 1
  | .slice elems spare => uptoBulkAll elems + uptoBulkAll spare + 1
  | .agg parts => uptoBulkAll parts + 1
  | .iface _ d => uptoBulk d + 1
  | .map entries => uptoBulkEntries entries + 1
  | .held _ => 1
def uptoBulkAll {H : Type} : List (DataW H) → Nat
  | [] => 0
  | d :: r => uptoBulk d + uptoBulkAll r
def uptoBulkEntries {H : Type} : List (Lit × DataW H) → Nat
  | [] => 0
  | x :: r => uptoBulkEntry x + uptoBulkEntries r
def uptoBulkEntry {H : Type} : Lit × DataW H → Nat
  | (.string bytes, d) => bytes.length + uptoBulk d + 1
  | (_, d) => uptoBulk d + 1
 end
def uptoSmall : (H : Type) → List (DataW H) → Bool := fun _ ds => decide (uptoBulkAll ds ≤ 1048576)
def OpenSpec.upto (s : _root_.Go.ChangeSpec) : _root_.Go.OpenSpec := { _root_.Go.OpenSpec.ofChange s with cond := some uptoSmall }

/-- 'broughamlaw30.CookieBack', WHERE WHAT IT READS IS OF BULK AT MOST 1048576: true; the input reads as it did. -/
def cookieBackUptoRow : OpenClaim := { program := "ytjoibacjpapncaa", sum := "039ee8ffc9efa383a0ffaa913da5dfb7719693c1eceb2ccad243a52ba0d0ea7c", func := "brougham/broughamlaw30.CookieBack", spec := "cookieBack", apart := false, narrowed := true }
def CookieBackUptoSaid : Prop := cookieBackUptoRow.holds Try.pinned (OpenSpec.upto cookieBackSpec)

/-- 'broughamlaw34.CaptureWrites', WHERE WHAT IT READS IS OF BULK AT MOST 1048576: true; the input reads as it did. -/
def captureWritesUptoRow : OpenClaim := { program := "ytjoibacjpapncaa", sum := "039ee8ffc9efa383a0ffaa913da5dfb7719693c1eceb2ccad243a52ba0d0ea7c", func := "brougham/broughamlaw34.CaptureWrites", spec := "captureWrites", recurses := true, apart := false, narrowed := true }
def CaptureWritesUptoSaid : Prop := captureWritesUptoRow.holds Try.pinned (OpenSpec.upto captureWritesSpec)

/-- 'broughamlaw34.CaptureReads', WHERE WHAT IT READS IS OF BULK AT MOST 1048576: true; the input reads as it did. -/
def captureReadsUptoRow : OpenClaim := { program := "ytjoibacjpapncaa", sum := "039ee8ffc9efa383a0ffaa913da5dfb7719693c1eceb2ccad243a52ba0d0ea7c", func := "brougham/broughamlaw34.CaptureReads", spec := "captureReads", recurses := true, apart := false, narrowed := true }
def CaptureReadsUptoSaid : Prop := captureReadsUptoRow.holds Try.pinned (OpenSpec.upto captureReadsSpec)

/-- 'broughamlaw34.CaptureBack', WHERE WHAT IT READS IS OF BULK AT MOST 1048576: true; the input reads as it did. -/
def captureBackUptoRow : OpenClaim := { program := "ytjoibacjpapncaa", sum := "039ee8ffc9efa383a0ffaa913da5dfb7719693c1eceb2ccad243a52ba0d0ea7c", func := "brougham/broughamlaw34.CaptureBack", spec := "captureBack", apart := false, narrowed := true }
def CaptureBackUptoSaid : Prop := captureBackUptoRow.holds Try.pinned (OpenSpec.upto captureBackSpec)

/-- 'broughamlaw31.SackPlays', WHERE WHAT IT READS IS OF BULK AT MOST 1048576: true; the input reads as it did. -/
def sackPlaysUptoRow : OpenClaim := { program := "ytjoibacjpapncaa", sum := "039ee8ffc9efa383a0ffaa913da5dfb7719693c1eceb2ccad243a52ba0d0ea7c", func := "brougham/broughamlaw31.SackPlays", spec := "sackPlays", recurses := true, apart := false, narrowed := true }
def SackPlaysUptoSaid : Prop := sackPlaysUptoRow.holds Try.pinned (OpenSpec.upto sackPlaysSpec)

/-- 'broughamlaw34.CaptureMerges', WHERE WHAT IT READS IS OF BULK AT MOST 1048576: true; the input reads as it did. -/
def captureMergesUptoRow : OpenClaim := { program := "ytjoibacjpapncaa", sum := "039ee8ffc9efa383a0ffaa913da5dfb7719693c1eceb2ccad243a52ba0d0ea7c", func := "brougham/broughamlaw34.CaptureMerges", spec := "captureMerges", apart := false, narrowed := true }
def CaptureMergesUptoSaid : Prop := captureMergesUptoRow.holds Try.pinned (OpenSpec.upto captureMergesSpec)

/-- 'broughamlaw31.SackSays', WHERE WHAT IT READS IS OF BULK AT MOST 1048576: true; the input reads as it did. -/
def sackSaysUptoRow : OpenClaim := { program := "ytjoibacjpapncaa", sum := "039ee8ffc9efa383a0ffaa913da5dfb7719693c1eceb2ccad243a52ba0d0ea7c", func := "brougham/broughamlaw31.SackSays", spec := "sackSays", recurses := true, apart := false, narrowed := true }
def SackSaysUptoSaid : Prop := sackSaysUptoRow.holds Try.pinned (OpenSpec.upto sackSaysSpec)

/-- 'broughamlaw31.SackBack', WHERE WHAT IT READS IS OF BULK AT MOST 1048576: true; the input reads as it did. -/
def sackBackUptoRow : OpenClaim := { program := "ytjoibacjpapncaa", sum := "039ee8ffc9efa383a0ffaa913da5dfb7719693c1eceb2ccad243a52ba0d0ea7c", func := "brougham/broughamlaw31.SackBack", spec := "sackBack", apart := false, narrowed := true }
def SackBackUptoSaid : Prop := sackBackUptoRow.holds Try.pinned (OpenSpec.upto sackBackSpec)

/-- 'broughamlaw40.TableKeys', WHERE WHAT IT READS IS OF BULK AT MOST 1048576: true; the input reads as it did. -/
def tableKeysUptoRow : OpenClaim := { program := "ytjoibacjpapncaa", sum := "039ee8ffc9efa383a0ffaa913da5dfb7719693c1eceb2ccad243a52ba0d0ea7c", func := "brougham/broughamlaw40.TableKeys", spec := "tableKeys", apart := false, narrowed := true }
def TableKeysUptoSaid : Prop := tableKeysUptoRow.holds Try.pinned (OpenSpec.upto tableKeysSpec)

/-- 'broughamlaw40.TablePlays', WHERE WHAT IT READS IS OF BULK AT MOST 1048576: true; the input reads as it did. -/
def tablePlaysUptoRow : OpenClaim := { program := "ytjoibacjpapncaa", sum := "039ee8ffc9efa383a0ffaa913da5dfb7719693c1eceb2ccad243a52ba0d0ea7c", func := "brougham/broughamlaw40.TablePlays", spec := "tablePlays", apart := false, narrowed := true }
def TablePlaysUptoSaid : Prop := tablePlaysUptoRow.holds Try.pinned (OpenSpec.upto tablePlaysSpec)

/-- 'broughamlaw26.TraceSays', WHERE WHAT IT READS IS OF BULK AT MOST 1048576: true; the input reads as it did. -/
def traceSaysUptoRow : OpenClaim := { program := "ytjoibacjpapncaa", sum := "039ee8ffc9efa383a0ffaa913da5dfb7719693c1eceb2ccad243a52ba0d0ea7c", func := "brougham/broughamlaw26.TraceSays", spec := "traceSays", inPlace := ["internal/abi.NoEscape", "internal/bytealg.MakeNoZero"], recurses := true, apart := false, narrowed := true }
def TraceSaysUptoSaid : Prop := traceSaysUptoRow.holds Try.pinned (OpenSpec.upto traceSaysSpec)

/-- 'broughamlaw26.TraceBytes', WHERE WHAT IT READS IS OF BULK AT MOST 1048576: true; the input reads as it did. -/
def traceBytesUptoRow : OpenClaim := { program := "ytjoibacjpapncaa", sum := "039ee8ffc9efa383a0ffaa913da5dfb7719693c1eceb2ccad243a52ba0d0ea7c", func := "brougham/broughamlaw26.TraceBytes", spec := "traceBytes", inPlace := ["internal/abi.NoEscape", "internal/bytealg.MakeNoZero"], recurses := true, apart := false, narrowed := true }
def TraceBytesUptoSaid : Prop := traceBytesUptoRow.holds Try.pinned (OpenSpec.upto traceBytesSpec)

end Rows
end Go.Proofs.Ytjoibacjpapncaa
