/-
  DERIVED. GIVEN WITH THE SEED: THE CARDS: each row of YtehhligadnlijaaGreatDoorRows.lean that lists a variable, with what it lists TIED to the program's text (the seventh form; the later family's looks); each row that meets fmt, with fmt's text TOLD by the authors' own Lean function (tested against real Go, not proved from fmt's source: count such statements apart). THE CARD IS WHAT COUNTS. Prove the row's statement (the work); the ties are given (YtehhligadnlijaaGreatDoorTie.lean); close each card by the builder's one call (the guide's Derived/Test/ToyasCard.lean, 'card_holds'). Laid BY PROGRAM, IN A SANDBOX (cutbox-door.mjs). By AI agents, Wed Nov 11 2026. No macro, syntax, notation, axiom, sorry.
-/
import Derived.Test.YtehhligadnlijaaGreatDoorRows
import GoSem.ClaimSeven
namespace Go.Proofs.YtehhligadnlijaaGreatDoor
namespace Rows

/-- THE TIED CARD OF 'pursuivantlaw20.UpdatePrefixes'. -/
def updatePrefixesCard : Claim7 := { stood := { row := updatePrefixesRow, standIns := [], harness := (true, "761eb24bbb9ac2e0483e2a012c316be60dfb99fa6215e90850bc376ae8a5f1e0"), looks := true }, kinds := [], alts := [], laidByText := true, laidKinds := [.data, .data, .data, .data, .sentinel, .sentinel, .pinned], laidTests := true, laidLooks := .later }
def UpdatePrefixesCardSaid : Prop := Claim7.holds Tryz.pinned (.plain (OpenSpec.ofChange updatePrefixesSpec)) updatePrefixesCard

/-- THE TIED CARD OF 'pursuivantlaw20.UpdateTexts'. -/
def updateTextsCard : Claim7 := { stood := { row := updateTextsRow, standIns := [], harness := (true, "761eb24bbb9ac2e0483e2a012c316be60dfb99fa6215e90850bc376ae8a5f1e0"), looks := true }, kinds := [], alts := [], laidByText := true, laidKinds := [.data, .data, .data, .data, .sentinel, .sentinel, .pinned], laidTests := true, laidLooks := .later }
def UpdateTextsCardSaid : Prop := Claim7.holds Tryz.pinned (.plain (OpenSpec.ofChange updateTextsSpec)) updateTextsCard

/-- THE TIED CARD OF 'pursuivantlaw20.UpdateSorts'. -/
def updateSortsCard : Claim7 := { stood := { row := updateSortsRow, standIns := [], harness := (true, "761eb24bbb9ac2e0483e2a012c316be60dfb99fa6215e90850bc376ae8a5f1e0"), looks := true }, kinds := [], alts := [], laidByText := true, laidKinds := [.data, .data, .data, .data, .sentinel, .sentinel, .pinned], laidTests := true, laidLooks := .later }
def UpdateSortsCardSaid : Prop := Claim7.holds Tryz.pinned (.plain (OpenSpec.ofChange updateSortsSpec)) updateSortsCard

/-- THE TIED CARD OF 'pursuivantlaw20.UpdateRaws'. -/
def updateRawsCard : Claim7 := { stood := { row := updateRawsRow, standIns := [], harness := (true, "761eb24bbb9ac2e0483e2a012c316be60dfb99fa6215e90850bc376ae8a5f1e0"), looks := true }, kinds := [], alts := [], laidByText := true, laidKinds := [.data, .data, .data, .data, .sentinel, .sentinel, .pinned], laidTests := true, laidLooks := .later }
def UpdateRawsCardSaid : Prop := Claim7.holds Tryz.pinned (.plain (OpenSpec.ofChange updateRawsSpec)) updateRawsCard

/-- THE TIED CARD OF 'pursuivantlaw20.UpdateParses'. -/
def updateParsesCard : Claim7 := { stood := { row := updateParsesRow, standIns := [], harness := (true, "761eb24bbb9ac2e0483e2a012c316be60dfb99fa6215e90850bc376ae8a5f1e0"), looks := true }, kinds := [], alts := [], laidByText := true, laidKinds := [.data, .data, .data, .data, .sentinel, .sentinel, .pinned], laidTests := true, laidLooks := .later }
def UpdateParsesCardSaid : Prop := Claim7.holds Tryz.pinned (.plain (OpenSpec.ofChange updateParsesSpec)) updateParsesCard

/-- THE TIED CARD OF 'pursuivantlaw20.UpdateBent'. -/
def updateBentCard : Claim7 := { stood := { row := updateBentRow, standIns := [], harness := (true, "761eb24bbb9ac2e0483e2a012c316be60dfb99fa6215e90850bc376ae8a5f1e0"), looks := true }, kinds := [], alts := [], laidByText := true, laidKinds := [.data, .data, .data, .data, .sentinel, .sentinel, .pinned], laidTests := true, laidLooks := .later }
def UpdateBentCardSaid : Prop := Claim7.holds Tryz.pinned (.plain (OpenSpec.ofChange updateBentSpec)) updateBentCard

/-- THE TIED CARD OF 'pursuivantlaw20.UpdateSame'. -/
def updateSameCard : Claim7 := { stood := { row := updateSameRow, standIns := [], harness := (true, "761eb24bbb9ac2e0483e2a012c316be60dfb99fa6215e90850bc376ae8a5f1e0"), looks := true }, kinds := [], alts := [], laidByText := true, laidKinds := [.data, .data, .data, .data, .sentinel, .sentinel, .pinned], laidTests := true, laidLooks := .later }
def UpdateSameCardSaid : Prop := Claim7.holds Tryz.pinned (.plain (OpenSpec.ofChange updateSameSpec)) updateSameCard

/-- THE TIED CARD OF 'pursuivantlaw20.UpdateLong'. -/
def updateLongCard : Claim7 := { stood := { row := updateLongRow, standIns := [], harness := (true, "761eb24bbb9ac2e0483e2a012c316be60dfb99fa6215e90850bc376ae8a5f1e0"), looks := true }, kinds := [], alts := [], laidByText := true, laidKinds := [.data, .data, .data, .data, .sentinel, .sentinel, .pinned], laidTests := true, laidLooks := .later }
def UpdateLongCardSaid : Prop := Claim7.holds Tryz.pinned (.plain (OpenSpec.ofChange updateLongSpec)) updateLongCard

/-- THE TIED CARD OF 'pursuivantlaw20.UpdateBack'. -/
def updateBackCard : Claim7 := { stood := { row := updateBackRow, standIns := [], harness := (true, "761eb24bbb9ac2e0483e2a012c316be60dfb99fa6215e90850bc376ae8a5f1e0"), looks := true }, kinds := [], alts := [], laidByText := true, laidKinds := [.data, .data, .data, .data, .sentinel, .sentinel, .pinned], laidTests := true, laidLooks := .later }
def UpdateBackCardSaid : Prop := Claim7.holds Tryz.pinned (.plain (OpenSpec.ofChange updateBackSpec)) updateBackCard

/-- THE SECOND FORM's CARD OF 'pursuivantlaw20.UpdatePrefixes'. -/
def updatePrefixesUptoCard : Claim7 := { stood := { row := updatePrefixesUptoRow, standIns := [], harness := (true, "761eb24bbb9ac2e0483e2a012c316be60dfb99fa6215e90850bc376ae8a5f1e0"), looks := true }, kinds := [], alts := [], laidByText := true, laidKinds := [.data, .data, .data, .data, .sentinel, .sentinel, .pinned], laidTests := true, laidLooks := .later }
def UpdatePrefixesUptoCardSaid : Prop := Claim7.holds Tryz.pinned (.plain (OpenSpec.upto updatePrefixesSpec)) updatePrefixesUptoCard

/-- THE SECOND FORM's CARD OF 'pursuivantlaw20.UpdateTexts'. -/
def updateTextsUptoCard : Claim7 := { stood := { row := updateTextsUptoRow, standIns := [], harness := (true, "761eb24bbb9ac2e0483e2a012c316be60dfb99fa6215e90850bc376ae8a5f1e0"), looks := true }, kinds := [], alts := [], laidByText := true, laidKinds := [.data, .data, .data, .data, .sentinel, .sentinel, .pinned], laidTests := true, laidLooks := .later }
def UpdateTextsUptoCardSaid : Prop := Claim7.holds Tryz.pinned (.plain (OpenSpec.upto updateTextsSpec)) updateTextsUptoCard

/-- THE SECOND FORM's CARD OF 'pursuivantlaw20.UpdateSorts'. -/
def updateSortsUptoCard : Claim7 := { stood := { row := updateSortsUptoRow, standIns := [], harness := (true, "761eb24bbb9ac2e0483e2a012c316be60dfb99fa6215e90850bc376ae8a5f1e0"), looks := true }, kinds := [], alts := [], laidByText := true, laidKinds := [.data, .data, .data, .data, .sentinel, .sentinel, .pinned], laidTests := true, laidLooks := .later }
def UpdateSortsUptoCardSaid : Prop := Claim7.holds Tryz.pinned (.plain (OpenSpec.upto updateSortsSpec)) updateSortsUptoCard

/-- THE SECOND FORM's CARD OF 'pursuivantlaw20.UpdateRaws'. -/
def updateRawsUptoCard : Claim7 := { stood := { row := updateRawsUptoRow, standIns := [], harness := (true, "761eb24bbb9ac2e0483e2a012c316be60dfb99fa6215e90850bc376ae8a5f1e0"), looks := true }, kinds := [], alts := [], laidByText := true, laidKinds := [.data, .data, .data, .data, .sentinel, .sentinel, .pinned], laidTests := true, laidLooks := .later }
def UpdateRawsUptoCardSaid : Prop := Claim7.holds Tryz.pinned (.plain (OpenSpec.upto updateRawsSpec)) updateRawsUptoCard

/-- THE SECOND FORM's CARD OF 'pursuivantlaw20.UpdateParses'. -/
def updateParsesUptoCard : Claim7 := { stood := { row := updateParsesUptoRow, standIns := [], harness := (true, "761eb24bbb9ac2e0483e2a012c316be60dfb99fa6215e90850bc376ae8a5f1e0"), looks := true }, kinds := [], alts := [], laidByText := true, laidKinds := [.data, .data, .data, .data, .sentinel, .sentinel, .pinned], laidTests := true, laidLooks := .later }
def UpdateParsesUptoCardSaid : Prop := Claim7.holds Tryz.pinned (.plain (OpenSpec.upto updateParsesSpec)) updateParsesUptoCard

/-- THE SECOND FORM's CARD OF 'pursuivantlaw20.UpdateBent'. -/
def updateBentUptoCard : Claim7 := { stood := { row := updateBentUptoRow, standIns := [], harness := (true, "761eb24bbb9ac2e0483e2a012c316be60dfb99fa6215e90850bc376ae8a5f1e0"), looks := true }, kinds := [], alts := [], laidByText := true, laidKinds := [.data, .data, .data, .data, .sentinel, .sentinel, .pinned], laidTests := true, laidLooks := .later }
def UpdateBentUptoCardSaid : Prop := Claim7.holds Tryz.pinned (.plain (OpenSpec.upto updateBentSpec)) updateBentUptoCard

/-- THE SECOND FORM's CARD OF 'pursuivantlaw20.UpdateSame'. -/
def updateSameUptoCard : Claim7 := { stood := { row := updateSameUptoRow, standIns := [], harness := (true, "761eb24bbb9ac2e0483e2a012c316be60dfb99fa6215e90850bc376ae8a5f1e0"), looks := true }, kinds := [], alts := [], laidByText := true, laidKinds := [.data, .data, .data, .data, .sentinel, .sentinel, .pinned], laidTests := true, laidLooks := .later }
def UpdateSameUptoCardSaid : Prop := Claim7.holds Tryz.pinned (.plain (OpenSpec.upto updateSameSpec)) updateSameUptoCard

/-- THE SECOND FORM's CARD OF 'pursuivantlaw20.UpdateLong'. -/
def updateLongUptoCard : Claim7 := { stood := { row := updateLongUptoRow, standIns := [], harness := (true, "761eb24bbb9ac2e0483e2a012c316be60dfb99fa6215e90850bc376ae8a5f1e0"), looks := true }, kinds := [], alts := [], laidByText := true, laidKinds := [.data, .data, .data, .data, .sentinel, .sentinel, .pinned], laidTests := true, laidLooks := .later }
def UpdateLongUptoCardSaid : Prop := Claim7.holds Tryz.pinned (.plain (OpenSpec.upto updateLongSpec)) updateLongUptoCard

/-- THE SECOND FORM's CARD OF 'pursuivantlaw20.UpdateBack'. -/
def updateBackUptoCard : Claim7 := { stood := { row := updateBackUptoRow, standIns := [], harness := (true, "761eb24bbb9ac2e0483e2a012c316be60dfb99fa6215e90850bc376ae8a5f1e0"), looks := true }, kinds := [], alts := [], laidByText := true, laidKinds := [.data, .data, .data, .data, .sentinel, .sentinel, .pinned], laidTests := true, laidLooks := .later }
def UpdateBackUptoCardSaid : Prop := Claim7.holds Tryz.pinned (.plain (OpenSpec.upto updateBackSpec)) updateBackUptoCard
end Rows
end Go.Proofs.YtehhligadnlijaaGreatDoor
