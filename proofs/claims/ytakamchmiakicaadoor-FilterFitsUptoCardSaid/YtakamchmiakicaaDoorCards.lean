/-
  DERIVED. GIVEN WITH THE SEED: THE CARDS: each row of YtakamchmiakicaaDoorRows.lean that lists a variable, with what it lists TIED to the program's text (the seventh form; the later family's looks); each row that meets fmt, with fmt's text TOLD by the authors' own Lean function (tested against real Go, not proved from fmt's source: count such statements apart). THE CARD IS WHAT COUNTS. Prove the row's statement (the work); the ties are given (YtakamchmiakicaaDoorTie.lean); close each card by the builder's one call (the guide's Derived/Test/ToyasCard.lean, 'card_holds'). Laid BY PROGRAM, IN A SANDBOX (cutbox-door.mjs). By AI agents, Wed Nov 11 2026. No macro, syntax, notation, axiom, sorry.
-/
import Derived.Test.YtakamchmiakicaaDoorRows
import GoSem.ClaimSeven
namespace Go.Proofs.YtakamchmiakicaaDoor
namespace Rows

/-- THE TIED CARD OF 'broughamlaw25.ScriptReads'. -/
def scriptReadsCard : Claim7 := { stood := { row := scriptReadsRow, standIns := [], harness := (true, "543e2dbb3c11a1c3340427f0142a3a5d4a0cdbf5695ff0c4454662e8cc7ac45c"), looks := false }, kinds := [], alts := [], laidByText := true, laidKinds := [.data, .pinned], laidTests := true, laidLooks := .later }
def ScriptReadsCardSaid : Prop := Claim7.holds Tryd.pinned (.plain (OpenSpec.ofChange scriptReadsSpec)) scriptReadsCard

/-- THE TIED CARD OF 'broughamlaw01.NumLines'. -/
def numLinesCard : Claim7 := { stood := { row := numLinesRow, standIns := [], harness := (true, "543e2dbb3c11a1c3340427f0142a3a5d4a0cdbf5695ff0c4454662e8cc7ac45c"), looks := false }, kinds := [], alts := [], laidByText := true, laidKinds := [.data, .pinned], laidTests := true, laidLooks := .later }
def NumLinesCardSaid : Prop := Claim7.holds Tryd.pinned (.plain (OpenSpec.ofChange numLinesSpec)) numLinesCard

/-- THE TIED CARD OF 'broughamlaw35.FilterReads'. -/
def filterReadsCard : Claim7 := { stood := { row := filterReadsRow, standIns := [], harness := (true, "543e2dbb3c11a1c3340427f0142a3a5d4a0cdbf5695ff0c4454662e8cc7ac45c"), looks := false }, kinds := [], alts := [], laidByText := true, laidKinds := [.data, .pinned], laidTests := true, laidLooks := .later }
def FilterReadsCardSaid : Prop := Claim7.holds Tryd.pinned (.plain (OpenSpec.ofChange filterReadsSpec)) filterReadsCard

/-- THE TIED CARD OF 'broughamlaw35.FilterBack'. -/
def filterBackCard : Claim7 := { stood := { row := filterBackRow, standIns := [], harness := (true, "543e2dbb3c11a1c3340427f0142a3a5d4a0cdbf5695ff0c4454662e8cc7ac45c"), looks := false }, kinds := [], alts := [], laidByText := true, laidKinds := [.data, .pinned], laidTests := true, laidLooks := .later }
def FilterBackCardSaid : Prop := Claim7.holds Tryd.pinned (.plain (OpenSpec.ofChange filterBackSpec)) filterBackCard

/-- THE TIED CARD OF 'broughamlaw35.FilterFits'. -/
def filterFitsCard : Claim7 := { stood := { row := filterFitsRow, standIns := [], harness := (true, "543e2dbb3c11a1c3340427f0142a3a5d4a0cdbf5695ff0c4454662e8cc7ac45c"), looks := false }, kinds := [], alts := [], laidByText := true, laidKinds := [.data, .pinned], laidTests := true, laidLooks := .later }
def FilterFitsCardSaid : Prop := Claim7.holds Tryd.pinned (.plain (OpenSpec.ofChange filterFitsSpec)) filterFitsCard

/-- THE TIED CARD OF 'broughamlaw35.FilterLaws'. -/
def filterLawsCard : Claim7 := { stood := { row := filterLawsRow, standIns := [], harness := (true, "543e2dbb3c11a1c3340427f0142a3a5d4a0cdbf5695ff0c4454662e8cc7ac45c"), looks := false }, kinds := [], alts := [], laidByText := true, laidKinds := [.data, .pinned], laidTests := true, laidLooks := .later }
def FilterLawsCardSaid : Prop := Claim7.holds Tryd.pinned (.plain (OpenSpec.ofChange filterLawsSpec)) filterLawsCard

/-- THE TIED CARD OF 'broughamlaw25.ScriptWrites'. -/
def scriptWritesCard : Claim7 := { stood := { row := scriptWritesRow, standIns := [], harness := (true, "543e2dbb3c11a1c3340427f0142a3a5d4a0cdbf5695ff0c4454662e8cc7ac45c"), looks := false }, kinds := [], alts := [], laidByText := true, laidKinds := [.data, .pinned], laidTests := true, laidLooks := .later }
def ScriptWritesCardSaid : Prop := Claim7.holds Tryd.pinned (.plain (OpenSpec.ofChange scriptWritesSpec)) scriptWritesCard

/-- THE TIED CARD OF 'broughamlaw25.ScriptBack'. -/
def scriptBackCard : Claim7 := { stood := { row := scriptBackRow, standIns := [], harness := (true, "543e2dbb3c11a1c3340427f0142a3a5d4a0cdbf5695ff0c4454662e8cc7ac45c"), looks := false }, kinds := [], alts := [], laidByText := true, laidKinds := [.data, .pinned], laidTests := true, laidLooks := .later }
def ScriptBackCardSaid : Prop := Claim7.holds Tryd.pinned (.plain (OpenSpec.ofChange scriptBackSpec)) scriptBackCard

/-- THE SECOND FORM's CARD OF 'broughamlaw25.ScriptReads'. -/
def scriptReadsUptoCard : Claim7 := { stood := { row := scriptReadsUptoRow, standIns := [], harness := (true, "543e2dbb3c11a1c3340427f0142a3a5d4a0cdbf5695ff0c4454662e8cc7ac45c"), looks := false }, kinds := [], alts := [], laidByText := true, laidKinds := [.data, .pinned], laidTests := true, laidLooks := .later }
def ScriptReadsUptoCardSaid : Prop := Claim7.holds Tryd.pinned (.plain (OpenSpec.upto scriptReadsSpec)) scriptReadsUptoCard

/-- THE SECOND FORM's CARD OF 'broughamlaw01.NumLines'. -/
def numLinesUptoCard : Claim7 := { stood := { row := numLinesUptoRow, standIns := [], harness := (true, "543e2dbb3c11a1c3340427f0142a3a5d4a0cdbf5695ff0c4454662e8cc7ac45c"), looks := false }, kinds := [], alts := [], laidByText := true, laidKinds := [.data, .pinned], laidTests := true, laidLooks := .later }
def NumLinesUptoCardSaid : Prop := Claim7.holds Tryd.pinned (.plain (OpenSpec.upto numLinesSpec)) numLinesUptoCard

/-- THE SECOND FORM's CARD OF 'broughamlaw35.FilterReads'. -/
def filterReadsUptoCard : Claim7 := { stood := { row := filterReadsUptoRow, standIns := [], harness := (true, "543e2dbb3c11a1c3340427f0142a3a5d4a0cdbf5695ff0c4454662e8cc7ac45c"), looks := false }, kinds := [], alts := [], laidByText := true, laidKinds := [.data, .pinned], laidTests := true, laidLooks := .later }
def FilterReadsUptoCardSaid : Prop := Claim7.holds Tryd.pinned (.plain (OpenSpec.upto filterReadsSpec)) filterReadsUptoCard

/-- THE SECOND FORM's CARD OF 'broughamlaw35.FilterBack'. -/
def filterBackUptoCard : Claim7 := { stood := { row := filterBackUptoRow, standIns := [], harness := (true, "543e2dbb3c11a1c3340427f0142a3a5d4a0cdbf5695ff0c4454662e8cc7ac45c"), looks := false }, kinds := [], alts := [], laidByText := true, laidKinds := [.data, .pinned], laidTests := true, laidLooks := .later }
def FilterBackUptoCardSaid : Prop := Claim7.holds Tryd.pinned (.plain (OpenSpec.upto filterBackSpec)) filterBackUptoCard

/-- THE SECOND FORM's CARD OF 'broughamlaw35.FilterFits'. -/
def filterFitsUptoCard : Claim7 := { stood := { row := filterFitsUptoRow, standIns := [], harness := (true, "543e2dbb3c11a1c3340427f0142a3a5d4a0cdbf5695ff0c4454662e8cc7ac45c"), looks := false }, kinds := [], alts := [], laidByText := true, laidKinds := [.data, .pinned], laidTests := true, laidLooks := .later }
def FilterFitsUptoCardSaid : Prop := Claim7.holds Tryd.pinned (.plain (OpenSpec.upto filterFitsSpec)) filterFitsUptoCard

/-- THE SECOND FORM's CARD OF 'broughamlaw35.FilterLaws'. -/
def filterLawsUptoCard : Claim7 := { stood := { row := filterLawsUptoRow, standIns := [], harness := (true, "543e2dbb3c11a1c3340427f0142a3a5d4a0cdbf5695ff0c4454662e8cc7ac45c"), looks := false }, kinds := [], alts := [], laidByText := true, laidKinds := [.data, .pinned], laidTests := true, laidLooks := .later }
def FilterLawsUptoCardSaid : Prop := Claim7.holds Tryd.pinned (.plain (OpenSpec.upto filterLawsSpec)) filterLawsUptoCard

/-- THE SECOND FORM's CARD OF 'broughamlaw25.ScriptWrites'. -/
def scriptWritesUptoCard : Claim7 := { stood := { row := scriptWritesUptoRow, standIns := [], harness := (true, "543e2dbb3c11a1c3340427f0142a3a5d4a0cdbf5695ff0c4454662e8cc7ac45c"), looks := false }, kinds := [], alts := [], laidByText := true, laidKinds := [.data, .pinned], laidTests := true, laidLooks := .later }
def ScriptWritesUptoCardSaid : Prop := Claim7.holds Tryd.pinned (.plain (OpenSpec.upto scriptWritesSpec)) scriptWritesUptoCard

/-- THE SECOND FORM's CARD OF 'broughamlaw25.ScriptBack'. -/
def scriptBackUptoCard : Claim7 := { stood := { row := scriptBackUptoRow, standIns := [], harness := (true, "543e2dbb3c11a1c3340427f0142a3a5d4a0cdbf5695ff0c4454662e8cc7ac45c"), looks := false }, kinds := [], alts := [], laidByText := true, laidKinds := [.data, .pinned], laidTests := true, laidLooks := .later }
def ScriptBackUptoCardSaid : Prop := Claim7.holds Tryd.pinned (.plain (OpenSpec.upto scriptBackSpec)) scriptBackUptoCard
end Rows
end Go.Proofs.YtakamchmiakicaaDoor
