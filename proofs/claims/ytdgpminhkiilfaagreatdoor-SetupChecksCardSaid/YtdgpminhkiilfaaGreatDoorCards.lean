/-
  DERIVED. GIVEN WITH THE SEED: THE CARDS: each row of YtdgpminhkiilfaaGreatDoorRows.lean that lists a variable, with what it lists TIED to the program's text (the seventh form; the later family's looks); each row that meets fmt, with fmt's text TOLD by the authors' own Lean function (tested against real Go, not proved from fmt's source: count such statements apart). THE CARD IS WHAT COUNTS. Prove the row's statement (the work); the ties are given (YtdgpminhkiilfaaGreatDoorTie.lean); close each card by the builder's one call (the guide's Derived/Test/ToyasCard.lean, 'card_holds'). Laid BY PROGRAM, IN A SANDBOX (cutbox-door.mjs). By AI agents, Wed Nov 11 2026. No macro, syntax, notation, axiom, sorry.
-/
import Derived.Test.YtdgpminhkiilfaaGreatDoorRows
import GoSem.ClaimSeven
namespace Go.Proofs.YtdgpminhkiilfaaGreatDoor
namespace Rows

/-- THE TIED CARD OF 'committeelaw2.SheetChecks'. -/
def sheetChecksCard : Claim7 := { stood := { row := sheetChecksRow, standIns := [], harness := (true, "3ed5ae554f28ed987fcc19dfdf8efce8d78c3684732022ff314b03c390f694d8"), looks := true }, kinds := [], alts := [], laidByText := true, laidKinds := [.data, .data, .data, .data, .sentinel, .sentinel, .pinned], laidTests := true, laidLooks := .later }
def SheetChecksCardSaid : Prop := Claim7.holds Tryz.pinned (.plain (OpenSpec.ofChange sheetChecksSpec)) sheetChecksCard

/-- THE TIED CARD OF 'committeelaw2.SetupChecks'. -/
def setupChecksCard : Claim7 := { stood := { row := setupChecksRow, standIns := [], harness := (true, "3ed5ae554f28ed987fcc19dfdf8efce8d78c3684732022ff314b03c390f694d8"), looks := true }, kinds := [], alts := [], laidByText := true, laidKinds := [.data, .data, .data, .data, .sentinel, .sentinel, .pinned], laidTests := true, laidLooks := .later }
def SetupChecksCardSaid : Prop := Claim7.holds Tryz.pinned (.plain (OpenSpec.ofChange setupChecksSpec)) setupChecksCard

/-- THE TIED CARD OF 'committeelaw2.ReviewAdds'. -/
def reviewAddsCard : Claim7 := { stood := { row := reviewAddsRow, standIns := [], harness := (true, "3ed5ae554f28ed987fcc19dfdf8efce8d78c3684732022ff314b03c390f694d8"), looks := true }, kinds := [], alts := [], laidByText := true, laidKinds := [.data, .data, .data, .data, .sentinel, .sentinel, .pinned], laidTests := true, laidLooks := .later }
def ReviewAddsCardSaid : Prop := Claim7.holds Tryz.pinned (.plain (OpenSpec.ofChange reviewAddsSpec)) reviewAddsCard

/-- THE TIED CARD OF 'committeelaw2.ReviewLatest'. -/
def reviewLatestCard : Claim7 := { stood := { row := reviewLatestRow, standIns := [], harness := (true, "3ed5ae554f28ed987fcc19dfdf8efce8d78c3684732022ff314b03c390f694d8"), looks := true }, kinds := [], alts := [], laidByText := true, laidKinds := [.data, .data, .data, .data, .sentinel, .sentinel, .pinned], laidTests := true, laidLooks := .later }
def ReviewLatestCardSaid : Prop := Claim7.holds Tryz.pinned (.plain (OpenSpec.ofChange reviewLatestSpec)) reviewLatestCard

/-- THE SECOND FORM's CARD OF 'committeelaw2.SheetChecks'. -/
def sheetChecksUptoCard : Claim7 := { stood := { row := sheetChecksUptoRow, standIns := [], harness := (true, "3ed5ae554f28ed987fcc19dfdf8efce8d78c3684732022ff314b03c390f694d8"), looks := true }, kinds := [], alts := [], laidByText := true, laidKinds := [.data, .data, .data, .data, .sentinel, .sentinel, .pinned], laidTests := true, laidLooks := .later }
def SheetChecksUptoCardSaid : Prop := Claim7.holds Tryz.pinned (.plain (OpenSpec.upto sheetChecksSpec)) sheetChecksUptoCard

/-- THE SECOND FORM's CARD OF 'committeelaw2.SetupChecks'. -/
def setupChecksUptoCard : Claim7 := { stood := { row := setupChecksUptoRow, standIns := [], harness := (true, "3ed5ae554f28ed987fcc19dfdf8efce8d78c3684732022ff314b03c390f694d8"), looks := true }, kinds := [], alts := [], laidByText := true, laidKinds := [.data, .data, .data, .data, .sentinel, .sentinel, .pinned], laidTests := true, laidLooks := .later }
def SetupChecksUptoCardSaid : Prop := Claim7.holds Tryz.pinned (.plain (OpenSpec.upto setupChecksSpec)) setupChecksUptoCard

/-- THE SECOND FORM's CARD OF 'committeelaw2.ReviewAdds'. -/
def reviewAddsUptoCard : Claim7 := { stood := { row := reviewAddsUptoRow, standIns := [], harness := (true, "3ed5ae554f28ed987fcc19dfdf8efce8d78c3684732022ff314b03c390f694d8"), looks := true }, kinds := [], alts := [], laidByText := true, laidKinds := [.data, .data, .data, .data, .sentinel, .sentinel, .pinned], laidTests := true, laidLooks := .later }
def ReviewAddsUptoCardSaid : Prop := Claim7.holds Tryz.pinned (.plain (OpenSpec.upto reviewAddsSpec)) reviewAddsUptoCard

/-- THE SECOND FORM's CARD OF 'committeelaw2.ReviewLatest'. -/
def reviewLatestUptoCard : Claim7 := { stood := { row := reviewLatestUptoRow, standIns := [], harness := (true, "3ed5ae554f28ed987fcc19dfdf8efce8d78c3684732022ff314b03c390f694d8"), looks := true }, kinds := [], alts := [], laidByText := true, laidKinds := [.data, .data, .data, .data, .sentinel, .sentinel, .pinned], laidTests := true, laidLooks := .later }
def ReviewLatestUptoCardSaid : Prop := Claim7.holds Tryz.pinned (.plain (OpenSpec.upto reviewLatestSpec)) reviewLatestUptoCard
end Rows
end Go.Proofs.YtdgpminhkiilfaaGreatDoor
