/-
  DERIVED. GIVEN WITH THE SEED: THE CARDS: each row of YtmokkkbbbmcjnaaGreatDoorRows.lean that lists a variable, with what it lists TIED to the program's text (the seventh form; the later family's looks); each row that meets fmt, with fmt's text TOLD by the authors' own Lean function (tested against real Go, not proved from fmt's source: count such statements apart). THE CARD IS WHAT COUNTS. Prove the row's statement (the work); the ties are given (YtmokkkbbbmcjnaaGreatDoorTie.lean); close each card by the builder's one call (the guide's Derived/Test/ToyasCard.lean, 'card_holds'). Laid BY PROGRAM, IN A SANDBOX (cutbox-door.mjs). By AI agents, Wed Nov 11 2026. No macro, syntax, notation, axiom, sorry.
-/
import Derived.Test.YtmokkkbbbmcjnaaGreatDoorRows
import GoSem.ClaimSeven
namespace Go.Proofs.YtmokkkbbbmcjnaaGreatDoor
namespace Rows

/-- THE TIED CARD OF 'weighhouselaw05.AsmLines'. -/
def asmLinesCard : Claim7 := { stood := { row := asmLinesRow, standIns := [], harness := (true, "0059a9ff528604ffd191d5854c7fdcec7fe88fd6b625dcb7f1b2bee279400dfb"), looks := true }, kinds := [], alts := [], laidByText := true, laidKinds := [.data, .data, .data, .data, .sentinel, .sentinel, .pinned], laidTests := true, laidLooks := .later }
def AsmLinesCardSaid : Prop := Claim7.holds Tryz.pinned (.plain (OpenSpec.ofChange asmLinesSpec)) asmLinesCard

/-- THE TIED CARD OF 'weighhouselaw05.AsmHeads'. -/
def asmHeadsCard : Claim7 := { stood := { row := asmHeadsRow, standIns := [], harness := (true, "0059a9ff528604ffd191d5854c7fdcec7fe88fd6b625dcb7f1b2bee279400dfb"), looks := true }, kinds := [], alts := [], laidByText := true, laidKinds := [.data, .data, .data, .data, .sentinel, .sentinel, .pinned], laidTests := true, laidLooks := .later }
def AsmHeadsCardSaid : Prop := Claim7.holds Tryz.pinned (.plain (OpenSpec.ofChange asmHeadsSpec)) asmHeadsCard

/-- THE TIED CARD OF 'weighhouselaw05.AsmTexts'. -/
def asmTextsCard : Claim7 := { stood := { row := asmTextsRow, standIns := [], harness := (true, "0059a9ff528604ffd191d5854c7fdcec7fe88fd6b625dcb7f1b2bee279400dfb"), looks := true }, kinds := [], alts := [], laidByText := true, laidKinds := [.data, .data, .data, .data, .sentinel, .sentinel, .pinned], laidTests := true, laidLooks := .later }
def AsmTextsCardSaid : Prop := Claim7.holds Tryz.pinned (.plain (OpenSpec.ofChange asmTextsSpec)) asmTextsCard

/-- THE TIED CARD OF 'weighhouselaw05.AsmBack'. -/
def asmBackCard : Claim7 := { stood := { row := asmBackRow, standIns := [], harness := (true, "0059a9ff528604ffd191d5854c7fdcec7fe88fd6b625dcb7f1b2bee279400dfb"), looks := true }, kinds := [], alts := [], laidByText := true, laidKinds := [.data, .data, .data, .data, .sentinel, .sentinel, .pinned], laidTests := true, laidLooks := .later }
def AsmBackCardSaid : Prop := Claim7.holds Tryz.pinned (.plain (OpenSpec.ofChange asmBackSpec)) asmBackCard

/-- THE TIED CARD OF 'weighhouselaw05.AsmParts'. -/
def asmPartsCard : Claim7 := { stood := { row := asmPartsRow, standIns := [], harness := (true, "0059a9ff528604ffd191d5854c7fdcec7fe88fd6b625dcb7f1b2bee279400dfb"), looks := true }, kinds := [], alts := [], laidByText := true, laidKinds := [.data, .data, .data, .data, .sentinel, .sentinel, .pinned], laidTests := true, laidLooks := .later }
def AsmPartsCardSaid : Prop := Claim7.holds Tryz.pinned (.plain (OpenSpec.ofChange asmPartsSpec)) asmPartsCard

/-- THE SECOND FORM's CARD OF 'weighhouselaw05.AsmLines'. -/
def asmLinesUptoCard : Claim7 := { stood := { row := asmLinesUptoRow, standIns := [], harness := (true, "0059a9ff528604ffd191d5854c7fdcec7fe88fd6b625dcb7f1b2bee279400dfb"), looks := true }, kinds := [], alts := [], laidByText := true, laidKinds := [.data, .data, .data, .data, .sentinel, .sentinel, .pinned], laidTests := true, laidLooks := .later }
def AsmLinesUptoCardSaid : Prop := Claim7.holds Tryz.pinned (.plain (OpenSpec.upto asmLinesSpec)) asmLinesUptoCard

/-- THE SECOND FORM's CARD OF 'weighhouselaw05.AsmHeads'. -/
def asmHeadsUptoCard : Claim7 := { stood := { row := asmHeadsUptoRow, standIns := [], harness := (true, "0059a9ff528604ffd191d5854c7fdcec7fe88fd6b625dcb7f1b2bee279400dfb"), looks := true }, kinds := [], alts := [], laidByText := true, laidKinds := [.data, .data, .data, .data, .sentinel, .sentinel, .pinned], laidTests := true, laidLooks := .later }
def AsmHeadsUptoCardSaid : Prop := Claim7.holds Tryz.pinned (.plain (OpenSpec.upto asmHeadsSpec)) asmHeadsUptoCard

/-- THE SECOND FORM's CARD OF 'weighhouselaw05.AsmTexts'. -/
def asmTextsUptoCard : Claim7 := { stood := { row := asmTextsUptoRow, standIns := [], harness := (true, "0059a9ff528604ffd191d5854c7fdcec7fe88fd6b625dcb7f1b2bee279400dfb"), looks := true }, kinds := [], alts := [], laidByText := true, laidKinds := [.data, .data, .data, .data, .sentinel, .sentinel, .pinned], laidTests := true, laidLooks := .later }
def AsmTextsUptoCardSaid : Prop := Claim7.holds Tryz.pinned (.plain (OpenSpec.upto asmTextsSpec)) asmTextsUptoCard

/-- THE SECOND FORM's CARD OF 'weighhouselaw05.AsmBack'. -/
def asmBackUptoCard : Claim7 := { stood := { row := asmBackUptoRow, standIns := [], harness := (true, "0059a9ff528604ffd191d5854c7fdcec7fe88fd6b625dcb7f1b2bee279400dfb"), looks := true }, kinds := [], alts := [], laidByText := true, laidKinds := [.data, .data, .data, .data, .sentinel, .sentinel, .pinned], laidTests := true, laidLooks := .later }
def AsmBackUptoCardSaid : Prop := Claim7.holds Tryz.pinned (.plain (OpenSpec.upto asmBackSpec)) asmBackUptoCard

/-- THE SECOND FORM's CARD OF 'weighhouselaw05.AsmParts'. -/
def asmPartsUptoCard : Claim7 := { stood := { row := asmPartsUptoRow, standIns := [], harness := (true, "0059a9ff528604ffd191d5854c7fdcec7fe88fd6b625dcb7f1b2bee279400dfb"), looks := true }, kinds := [], alts := [], laidByText := true, laidKinds := [.data, .data, .data, .data, .sentinel, .sentinel, .pinned], laidTests := true, laidLooks := .later }
def AsmPartsUptoCardSaid : Prop := Claim7.holds Tryz.pinned (.plain (OpenSpec.upto asmPartsSpec)) asmPartsUptoCard
end Rows
end Go.Proofs.YtmokkkbbbmcjnaaGreatDoor
