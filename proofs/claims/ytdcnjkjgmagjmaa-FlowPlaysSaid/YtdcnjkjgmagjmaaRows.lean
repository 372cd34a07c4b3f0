/-
  No cell of these rows narrows 'for every input' (looked for: loops, veiled, ifaces, maps, wideKeys, modest, calm, conditions, laid).
  DERIVED. THE GIVEN ROWS OF THIS SEAT. 11 by the template 'for every input the law returns true; each argument reads behind the call as it read before'; 0 by the template 'total and deterministic' (their statements: YtdcnjkjgmagjmaaTotals.lean).
  GIVEN WITH THE SEED: the statements are not yours to turn. If you find one false, say at which input.
  Laid BY PROGRAM, IN A SANDBOX (cutbox-rows.mjs): the forced cells as the released guide's own fill.sh prints them over the translation 730baace4cfcba75… (all of the seat's roots in one cut). By AI agents, Wed Nov 11 2026. No macro, syntax, notation, axiom, sorry.
-/
import Derived.Test.YtdcnjkjgmagjmaaChecked
import GoSem.Claim
import GoSem.ClaimJoined
import GoSem.ClaimMapViews
import Derived.JoinedTies
import Derived.KernelRfl
namespace Go.Proofs.Ytdcnjkjgmagjmaa
/- THE CELL 'sum', in the pinned program and in every row, IS THE sha256 OF THE DUMP (.gsa) THAT YtdcnjkjgmagjmaaProg.lean LOADS. Nothing in Lean hashes anything: it is a label: what it is worth is what the hold of that sum in a sandbox is worth. -/
noncomputable def Try.pinned : Pinned := { name := "ytdcnjkjgmagjmaa", sum := "730baace4cfcba759371fc4726b95e8e0d7eb8d78fd2337a3758833840def10f", checked := Try.checked }
namespace Rows
def none {H : Type} : Left H := { results := [], args := [] }

/-- 'broughamlaw21.FlowSegments': WHATEVER THE INPUT: true; the input reads as it did. -/
def flowSegmentsSpec : ChangeSpec := { name := "flowSegments", fn := fun _ => fun
  | [d1, d2, d3] => { results := [.lit (.bool true)], args := [d1, d2, d3] }
  | _ => none }
def flowSegmentsRow : OpenClaim := { program := "ytdcnjkjgmagjmaa", sum := "730baace4cfcba759371fc4726b95e8e0d7eb8d78fd2337a3758833840def10f", func := "brougham/broughamlaw21.FlowSegments", spec := "flowSegments", apart := false }
def FlowSegmentsSaid : Prop := flowSegmentsRow.holds Try.pinned (OpenSpec.ofChange flowSegmentsSpec)

/-- ITS FALSE NEIGHBOUR: 'it returns false'. Refute it at one input. -/
def flowSegmentsWrong : ChangeSpec := { name := "flowSegments", fn := fun _ => fun
  | [d1, d2, d3] => { results := [.lit (.bool false)], args := [d1, d2, d3] }
  | _ => none }
def FlowSegmentsWrongFalsely : Prop := flowSegmentsRow.holds Try.pinned (OpenSpec.ofChange flowSegmentsWrong)

/-- 'broughamlaw15.JudgeDecides': WHATEVER THE INPUT: true; the input reads as it did. -/
def judgeDecidesSpec : ChangeSpec := { name := "judgeDecides", fn := fun _ => fun
  | [d1, d2, d3] => { results := [.lit (.bool true)], args := [d1, d2, d3] }
  | _ => none }
def judgeDecidesRow : OpenClaim := { program := "ytdcnjkjgmagjmaa", sum := "730baace4cfcba759371fc4726b95e8e0d7eb8d78fd2337a3758833840def10f", func := "brougham/broughamlaw15.JudgeDecides", spec := "judgeDecides", apart := false }
def JudgeDecidesSaid : Prop := judgeDecidesRow.holds Try.pinned (OpenSpec.ofChange judgeDecidesSpec)

/-- ITS FALSE NEIGHBOUR: 'it returns false'. Refute it at one input. -/
def judgeDecidesWrong : ChangeSpec := { name := "judgeDecides", fn := fun _ => fun
  | [d1, d2, d3] => { results := [.lit (.bool false)], args := [d1, d2, d3] }
  | _ => none }
def JudgeDecidesWrongFalsely : Prop := judgeDecidesRow.holds Try.pinned (OpenSpec.ofChange judgeDecidesWrong)

/-- 'broughamlaw15.JudgeBlind': WHATEVER THE INPUT: true; the input reads as it did. -/
def judgeBlindSpec : ChangeSpec := { name := "judgeBlind", fn := fun _ => fun
  | [d1, d2] => { results := [.lit (.bool true)], args := [d1, d2] }
  | _ => none }
def judgeBlindRow : OpenClaim := { program := "ytdcnjkjgmagjmaa", sum := "730baace4cfcba759371fc4726b95e8e0d7eb8d78fd2337a3758833840def10f", func := "brougham/broughamlaw15.JudgeBlind", spec := "judgeBlind", apart := false }
def JudgeBlindSaid : Prop := judgeBlindRow.holds Try.pinned (OpenSpec.ofChange judgeBlindSpec)

/-- ITS FALSE NEIGHBOUR: 'it returns false'. Refute it at one input. -/
def judgeBlindWrong : ChangeSpec := { name := "judgeBlind", fn := fun _ => fun
  | [d1, d2] => { results := [.lit (.bool false)], args := [d1, d2] }
  | _ => none }
def JudgeBlindWrongFalsely : Prop := judgeBlindRow.holds Try.pinned (OpenSpec.ofChange judgeBlindWrong)

/-- 'broughamlaw15.JudgeMoves': WHATEVER THE INPUT: true; the input reads as it did. -/
def judgeMovesSpec : ChangeSpec := { name := "judgeMoves", fn := fun _ => fun
  | [d1, d2, d3] => { results := [.lit (.bool true)], args := [d1, d2, d3] }
  | _ => none }
def judgeMovesRow : OpenClaim := { program := "ytdcnjkjgmagjmaa", sum := "730baace4cfcba759371fc4726b95e8e0d7eb8d78fd2337a3758833840def10f", func := "brougham/broughamlaw15.JudgeMoves", spec := "judgeMoves", apart := false }
def JudgeMovesSaid : Prop := judgeMovesRow.holds Try.pinned (OpenSpec.ofChange judgeMovesSpec)

/-- ITS FALSE NEIGHBOUR: 'it returns false'. Refute it at one input. -/
def judgeMovesWrong : ChangeSpec := { name := "judgeMoves", fn := fun _ => fun
  | [d1, d2, d3] => { results := [.lit (.bool false)], args := [d1, d2, d3] }
  | _ => none }
def JudgeMovesWrongFalsely : Prop := judgeMovesRow.holds Try.pinned (OpenSpec.ofChange judgeMovesWrong)

/-- 'broughamlaw41.ReplayOnce': WHATEVER THE INPUT: true; the input reads as it did. -/
def replayOnceSpec : ChangeSpec := { name := "replayOnce", fn := fun _ => fun
  | [d] => { results := [.lit (.bool true)], args := [d] }
  | _ => none }
def replayOnceRow : OpenClaim := { program := "ytdcnjkjgmagjmaa", sum := "730baace4cfcba759371fc4726b95e8e0d7eb8d78fd2337a3758833840def10f", func := "brougham/broughamlaw41.ReplayOnce", spec := "replayOnce", apart := false }
def ReplayOnceSaid : Prop := replayOnceRow.holds Try.pinned (OpenSpec.ofChange replayOnceSpec)

/-- ITS FALSE NEIGHBOUR: 'it returns false'. Refute it at one input. -/
def replayOnceWrong : ChangeSpec := { name := "replayOnce", fn := fun _ => fun
  | [d] => { results := [.lit (.bool false)], args := [d] }
  | _ => none }
def ReplayOnceWrongFalsely : Prop := replayOnceRow.holds Try.pinned (OpenSpec.ofChange replayOnceWrong)

/-- 'broughamlaw21.FlowTalk': WHATEVER THE INPUT: true; the input reads as it did. -/
def flowTalkSpec : ChangeSpec := { name := "flowTalk", fn := fun _ => fun
  | [d1, d2, d3] => { results := [.lit (.bool true)], args := [d1, d2, d3] }
  | _ => none }
def flowTalkRow : OpenClaim := { program := "ytdcnjkjgmagjmaa", sum := "730baace4cfcba759371fc4726b95e8e0d7eb8d78fd2337a3758833840def10f", func := "brougham/broughamlaw21.FlowTalk", spec := "flowTalk", apart := false }
def FlowTalkSaid : Prop := flowTalkRow.holds Try.pinned (OpenSpec.ofChange flowTalkSpec)

/-- ITS FALSE NEIGHBOUR: 'it returns false'. Refute it at one input. -/
def flowTalkWrong : ChangeSpec := { name := "flowTalk", fn := fun _ => fun
  | [d1, d2, d3] => { results := [.lit (.bool false)], args := [d1, d2, d3] }
  | _ => none }
def FlowTalkWrongFalsely : Prop := flowTalkRow.holds Try.pinned (OpenSpec.ofChange flowTalkWrong)

/-- 'broughamlaw41.ReplayPlays': WHATEVER THE INPUT: true; the input reads as it did. -/
def replayPlaysSpec : ChangeSpec := { name := "replayPlays", fn := fun _ => fun
  | [d1, d2] => { results := [.lit (.bool true)], args := [d1, d2] }
  | _ => none }
def replayPlaysRow : OpenClaim := { program := "ytdcnjkjgmagjmaa", sum := "730baace4cfcba759371fc4726b95e8e0d7eb8d78fd2337a3758833840def10f", func := "brougham/broughamlaw41.ReplayPlays", spec := "replayPlays", apart := false }
def ReplayPlaysSaid : Prop := replayPlaysRow.holds Try.pinned (OpenSpec.ofChange replayPlaysSpec)

/-- ITS FALSE NEIGHBOUR: 'it returns false'. Refute it at one input. -/
def replayPlaysWrong : ChangeSpec := { name := "replayPlays", fn := fun _ => fun
  | [d1, d2] => { results := [.lit (.bool false)], args := [d1, d2] }
  | _ => none }
def ReplayPlaysWrongFalsely : Prop := replayPlaysRow.holds Try.pinned (OpenSpec.ofChange replayPlaysWrong)

/-- 'broughamlaw09.KeysRoles': WHATEVER THE INPUT: true; the input reads as it did. -/
def keysRolesSpec : ChangeSpec := { name := "keysRoles", fn := fun _ => fun
  | [d1, d2] => { results := [.lit (.bool true)], args := [d1, d2] }
  | _ => none }
def keysRolesRow : OpenClaim := { program := "ytdcnjkjgmagjmaa", sum := "730baace4cfcba759371fc4726b95e8e0d7eb8d78fd2337a3758833840def10f", func := "brougham/broughamlaw09.KeysRoles", spec := "keysRoles", apart := false }
def KeysRolesSaid : Prop := keysRolesRow.holds Try.pinned (OpenSpec.ofChange keysRolesSpec)

/-- ITS FALSE NEIGHBOUR: 'it returns false'. Refute it at one input. -/
def keysRolesWrong : ChangeSpec := { name := "keysRoles", fn := fun _ => fun
  | [d1, d2] => { results := [.lit (.bool false)], args := [d1, d2] }
  | _ => none }
def KeysRolesWrongFalsely : Prop := keysRolesRow.holds Try.pinned (OpenSpec.ofChange keysRolesWrong)

/-- 'broughamlaw09.KeysSessions': WHATEVER THE INPUT: true; the input reads as it did. -/
def keysSessionsSpec : ChangeSpec := { name := "keysSessions", fn := fun _ => fun
  | [d1, d2, d3] => { results := [.lit (.bool true)], args := [d1, d2, d3] }
  | _ => none }
def keysSessionsRow : OpenClaim := { program := "ytdcnjkjgmagjmaa", sum := "730baace4cfcba759371fc4726b95e8e0d7eb8d78fd2337a3758833840def10f", func := "brougham/broughamlaw09.KeysSessions", spec := "keysSessions", recurses := true, apart := false }
def KeysSessionsSaid : Prop := keysSessionsRow.holds Try.pinned (OpenSpec.ofChange keysSessionsSpec)

/-- ITS FALSE NEIGHBOUR: 'it returns false'. Refute it at one input. -/
def keysSessionsWrong : ChangeSpec := { name := "keysSessions", fn := fun _ => fun
  | [d1, d2, d3] => { results := [.lit (.bool false)], args := [d1, d2, d3] }
  | _ => none }
def KeysSessionsWrongFalsely : Prop := keysSessionsRow.holds Try.pinned (OpenSpec.ofChange keysSessionsWrong)

/-- 'broughamlaw09.KeysDraws': WHATEVER THE INPUT: true; the input reads as it did. -/
def keysDrawsSpec : ChangeSpec := { name := "keysDraws", fn := fun _ => fun
  | [d1, d2, d3] => { results := [.lit (.bool true)], args := [d1, d2, d3] }
  | _ => none }
def keysDrawsRow : OpenClaim := { program := "ytdcnjkjgmagjmaa", sum := "730baace4cfcba759371fc4726b95e8e0d7eb8d78fd2337a3758833840def10f", func := "brougham/broughamlaw09.KeysDraws", spec := "keysDraws", recurses := true, apart := false }
def KeysDrawsSaid : Prop := keysDrawsRow.holds Try.pinned (OpenSpec.ofChange keysDrawsSpec)

/-- ITS FALSE NEIGHBOUR: 'it returns false'. Refute it at one input. -/
def keysDrawsWrong : ChangeSpec := { name := "keysDraws", fn := fun _ => fun
  | [d1, d2, d3] => { results := [.lit (.bool false)], args := [d1, d2, d3] }
  | _ => none }
def KeysDrawsWrongFalsely : Prop := keysDrawsRow.holds Try.pinned (OpenSpec.ofChange keysDrawsWrong)

/-- 'broughamlaw21.FlowPlays': WHATEVER THE INPUT: true; the input reads as it did. -/
def flowPlaysSpec : ChangeSpec := { name := "flowPlays", fn := fun _ => fun
  | [d1, d2, d3] => { results := [.lit (.bool true)], args := [d1, d2, d3] }
  | _ => none }
def flowPlaysRow : OpenClaim := { program := "ytdcnjkjgmagjmaa", sum := "730baace4cfcba759371fc4726b95e8e0d7eb8d78fd2337a3758833840def10f", func := "brougham/broughamlaw21.FlowPlays", spec := "flowPlays", apart := false }
def FlowPlaysSaid : Prop := flowPlaysRow.holds Try.pinned (OpenSpec.ofChange flowPlaysSpec)

/-- ITS FALSE NEIGHBOUR: 'it returns false'. Refute it at one input. -/
def flowPlaysWrong : ChangeSpec := { name := "flowPlays", fn := fun _ => fun
  | [d1, d2, d3] => { results := [.lit (.bool false)], args := [d1, d2, d3] }
  | _ => none }
def FlowPlaysWrongFalsely : Prop := flowPlaysRow.holds Try.pinned (OpenSpec.ofChange flowPlaysWrong)

/- THE SECOND FORM. 'bulk': how many values and letters a reading holds, each counted each time it is reached (what is shared counts as often as it is met; a slice's spare places count too). A statement '..UptoSaid' is the law's where the arguments, and the package variables that the reading takes, are together of bulk at most 1048576: NARROWER than '..Said'. Prove '..Said' where nothing that the law and all that it calls make is longer than what came in: it says more and counts as full. Else prove '..UptoSaid'. A law counts once. -/
mutual
def uptoBulk {H : Type} : DataW H → Nat
  | .lit (.string bytes) => bytes.length + 1
  | .lit _ => 1
  | .nil => 1
  | .ptr d => uptoBulk d + 1
  | .slice elems spare => uptoBulkAll elems + uptoBulkAll spare + 1
  | .agg parts => uptoBulkAll parts + 1
  | .iface _ d => uptoBulk d + 1
  | .map entries => uptoBulkEntries entries + 1
  | .held _ => 1
def uptoBulkAll {H : Type} : List (DataW H) → Nat
  | [] => 0
  | d :: r => uptoBulk d + uptoBulkAll r
def uptoBulkEntries {H : Type} : List (Lit × DataW H) → Nat
  | [] => 0
  | x :: r => uptoBulkEntry x + uptoBulkEntries r
def uptoBulkEntry {H : Type} : Lit × DataW H → Nat
  | (.string bytes, d) => bytes.length + uptoBulk d + 1
  | (_, d) => uptoBulk d + 1
 end
def uptoSmall : (H : Type) → List (DataW H) → Bool := fun _ ds => decide (uptoBulkAll ds ≤ 1048576)
def OpenSpec.upto (s : _root_.Go.ChangeSpec) : _root_.Go.OpenSpec := { _root_.Go.OpenSpec.ofChange s with cond := some uptoSmall }

/-- 'broughamlaw21.FlowSegments', WHERE WHAT IT READS IS OF BULK AT MOST 1048576: true; the input reads as it did. -/
def flowSegmentsUptoRow : OpenClaim := { program := "ytdcnjkjgmagjmaa", sum := "730baace4cfcba759371fc4726b95e8e0d7eb8d78fd2337a3758833840def10f", func := "brougham/broughamlaw21.FlowSegments", spec := "flowSegments", apart := false, narrowed := true }
def FlowSegmentsUptoSaid : Prop := flowSegmentsUptoRow.holds Try.pinned (OpenSpec.upto flowSegmentsSpec)

/-- 'broughamlaw15.JudgeDecides', WHERE WHAT IT READS IS OF BULK AT MOST 1048576: true; the input reads as it did. -/
def judgeDecidesUptoRow : OpenClaim := { program := "ytdcnjkjgmagjmaa", sum := "730baace4cfcba759371fc4726b95e8e0d7eb8d78fd2337a3758833840def10f", func := "brougham/broughamlaw15.JudgeDecides", spec := "judgeDecides", apart := false, narrowed := true }
def JudgeDecidesUptoSaid : Prop := judgeDecidesUptoRow.holds Try.pinned (OpenSpec.upto judgeDecidesSpec)

/-- 'broughamlaw15.JudgeBlind', WHERE WHAT IT READS IS OF BULK AT MOST 1048576: true; the input reads as it did. -/
def judgeBlindUptoRow : OpenClaim := { program := "ytdcnjkjgmagjmaa", sum := "730baace4cfcba759371fc4726b95e8e0d7eb8d78fd2337a3758833840def10f", func := "brougham/broughamlaw15.JudgeBlind", spec := "judgeBlind", apart := false, narrowed := true }
def JudgeBlindUptoSaid : Prop := judgeBlindUptoRow.holds Try.pinned (OpenSpec.upto judgeBlindSpec)

/-- 'broughamlaw15.JudgeMoves', WHERE WHAT IT READS IS OF BULK AT MOST 1048576: true; the input reads as it did. -/
def judgeMovesUptoRow : OpenClaim := { program := "ytdcnjkjgmagjmaa", sum := "730baace4cfcba759371fc4726b95e8e0d7eb8d78fd2337a3758833840def10f", func := "brougham/broughamlaw15.JudgeMoves", spec := "judgeMoves", apart := false, narrowed := true }
def JudgeMovesUptoSaid : Prop := judgeMovesUptoRow.holds Try.pinned (OpenSpec.upto judgeMovesSpec)

/-- 'broughamlaw41.ReplayOnce', WHERE WHAT IT READS IS OF BULK AT MOST 1048576: true; the input reads as it did. -/
def replayOnceUptoRow : OpenClaim := { program := "ytdcnjkjgmagjmaa", sum := "730baace4cfcba759371fc4726b95e8e0d7eb8d78fd2337a3758833840def10f", func := "brougham/broughamlaw41.ReplayOnce", spec := "replayOnce", apart := false, narrowed := true }
def ReplayOnceUptoSaid : Prop := replayOnceUptoRow.holds Try.pinned (OpenSpec.upto replayOnceSpec)

/-- 'broughamlaw21.FlowTalk', WHERE WHAT IT READS IS OF BULK AT MOST 1048576: true; the input reads as it did. -/
def flowTalkUptoRow : OpenClaim := { program := "ytdcnjkjgmagjmaa", sum := "730baace4cfcba759371fc4726b95e8e0d7eb8d78fd2337a3758833840def10f", func := "brougham/broughamlaw21.FlowTalk", spec := "flowTalk", apart := false, narrowed := true }
def FlowTalkUptoSaid : Prop := flowTalkUptoRow.holds Try.pinned (OpenSpec.upto flowTalkSpec)

/-- 'broughamlaw41.ReplayPlays', WHERE WHAT IT READS IS OF BULK AT MOST 1048576: true; the input reads as it did. -/
def replayPlaysUptoRow : OpenClaim := { program := "ytdcnjkjgmagjmaa", sum := "730baace4cfcba759371fc4726b95e8e0d7eb8d78fd2337a3758833840def10f", func := "brougham/broughamlaw41.ReplayPlays", spec := "replayPlays", apart := false, narrowed := true }
def ReplayPlaysUptoSaid : Prop := replayPlaysUptoRow.holds Try.pinned (OpenSpec.upto replayPlaysSpec)

/-- 'broughamlaw09.KeysRoles', WHERE WHAT IT READS IS OF BULK AT MOST 1048576: true; the input reads as it did. -/
def keysRolesUptoRow : OpenClaim := { program := "ytdcnjkjgmagjmaa", sum := "730baace4cfcba759371fc4726b95e8e0d7eb8d78fd2337a3758833840def10f", func := "brougham/broughamlaw09.KeysRoles", spec := "keysRoles", apart := false, narrowed := true }
def KeysRolesUptoSaid : Prop := keysRolesUptoRow.holds Try.pinned (OpenSpec.upto keysRolesSpec)

/-- 'broughamlaw09.KeysSessions', WHERE WHAT IT READS IS OF BULK AT MOST 1048576: true; the input reads as it did. -/
def keysSessionsUptoRow : OpenClaim := { program := "ytdcnjkjgmagjmaa", sum := "730baace4cfcba759371fc4726b95e8e0d7eb8d78fd2337a3758833840def10f", func := "brougham/broughamlaw09.KeysSessions", spec := "keysSessions", recurses := true, apart := false, narrowed := true }
def KeysSessionsUptoSaid : Prop := keysSessionsUptoRow.holds Try.pinned (OpenSpec.upto keysSessionsSpec)

/-- 'broughamlaw09.KeysDraws', WHERE WHAT IT READS IS OF BULK AT MOST 1048576: true; the input reads as it did. -/
def keysDrawsUptoRow : OpenClaim := { program := "ytdcnjkjgmagjmaa", sum := "730baace4cfcba759371fc4726b95e8e0d7eb8d78fd2337a3758833840def10f", func := "brougham/broughamlaw09.KeysDraws", spec := "keysDraws", recurses := true, apart := false, narrowed := true }
def KeysDrawsUptoSaid : Prop := keysDrawsUptoRow.holds Try.pinned (OpenSpec.upto keysDrawsSpec)

/-- 'broughamlaw21.FlowPlays', WHERE WHAT IT READS IS OF BULK AT MOST 1048576: true; the input reads as it did. -/
def flowPlaysUptoRow : OpenClaim := { program := "ytdcnjkjgmagjmaa", sum := "730baace4cfcba759371fc4726b95e8e0d7eb8d78fd2337a3758833840def10f", func := "brougham/broughamlaw21.FlowPlays", spec := "flowPlays", apart := false, narrowed := true }
def FlowPlaysUptoSaid : Prop := flowPlaysUptoRow.holds Try.pinned (OpenSpec.upto flowPlaysSpec)

end Rows
end Go.Proofs.Ytdcnjkjgmagjmaa
