/-
  DERIVED. GIVEN WITH THE SEED: THE CARDS: each row of YtgobnlgmbplggaaGreatDoorRows.lean that lists a variable, with what it lists TIED to the program's text (the seventh form; the later family's looks); each row that meets fmt, with fmt's text TOLD by the authors' own Lean function (tested against real Go, not proved from fmt's source: count such statements apart). THE CARD IS WHAT COUNTS. Prove the row's statement (the work); the ties are given (YtgobnlgmbplggaaGreatDoorTie.lean); close each card by the builder's one call (the guide's Derived/Test/ToyasCard.lean, 'card_holds'). Laid BY PROGRAM, IN A SANDBOX (cutbox-door.mjs). By AI agents, Wed Nov 11 2026. No macro, syntax, notation, axiom, sorry.
-/
import Derived.Test.YtgobnlgmbplggaaGreatDoorRows
import GoSem.ClaimSeven
namespace Go.Proofs.YtgobnlgmbplggaaGreatDoor
namespace Rows

/-- THE TIED CARD OF 'committeelaw2.WorldChecks'. -/
def worldChecksCard : Claim7 := { stood := { row := worldChecksRow, standIns := [], harness := (true, "7971bd5e7250100467f7a0c24694084c7fe5a460d949bea5339a88fe887def63"), looks := true }, kinds := [], alts := [], laidByText := true, laidKinds := [.data, .data, .data, .data, .sentinel, .sentinel, .pinned], laidTests := true, laidLooks := .later }
def WorldChecksCardSaid : Prop := Claim7.holds Tryz.pinned (.plain (OpenSpec.ofChange worldChecksSpec)) worldChecksCard

/-- THE TIED CARD OF 'committeelaw2.PlacesAbove'. -/
def placesAboveCard : Claim7 := { stood := { row := placesAboveRow, standIns := [], harness := (true, "7971bd5e7250100467f7a0c24694084c7fe5a460d949bea5339a88fe887def63"), looks := true }, kinds := [], alts := [], laidByText := true, laidKinds := [.data, .data, .data, .data, .sentinel, .sentinel, .pinned], laidTests := true, laidLooks := .later }
def PlacesAboveCardSaid : Prop := Claim7.holds Tryz.pinned (.plain (OpenSpec.ofChange placesAboveSpec)) placesAboveCard

/-- THE TIED CARD OF 'committeelaw2.NamesAndHomes'. -/
def namesAndHomesCard : Claim7 := { stood := { row := namesAndHomesRow, standIns := [], harness := (true, "7971bd5e7250100467f7a0c24694084c7fe5a460d949bea5339a88fe887def63"), looks := true }, kinds := [], alts := [], laidByText := true, laidKinds := [.data, .data, .data, .data, .sentinel, .sentinel, .pinned], laidTests := true, laidLooks := .later }
def NamesAndHomesCardSaid : Prop := Claim7.holds Tryz.pinned (.plain (OpenSpec.ofChange namesAndHomesSpec)) namesAndHomesCard

/-- THE TIED CARD OF 'committeelaw2.PersonsFound'. -/
def personsFoundCard : Claim7 := { stood := { row := personsFoundRow, standIns := [], harness := (true, "7971bd5e7250100467f7a0c24694084c7fe5a460d949bea5339a88fe887def63"), looks := true }, kinds := [], alts := [], laidByText := true, laidKinds := [.data, .data, .data, .data, .sentinel, .sentinel, .pinned], laidTests := true, laidLooks := .later }
def PersonsFoundCardSaid : Prop := Claim7.holds Tryz.pinned (.plain (OpenSpec.ofChange personsFoundSpec)) personsFoundCard

/-- THE TIED CARD OF 'committeelaw2.ReasonsHold'. -/
def reasonsHoldCard : Claim7 := { stood := { row := reasonsHoldRow, standIns := [], harness := (true, "7971bd5e7250100467f7a0c24694084c7fe5a460d949bea5339a88fe887def63"), looks := true }, kinds := [], alts := [], laidByText := true, laidKinds := [.data, .data, .data, .data, .sentinel, .sentinel, .pinned], laidTests := true, laidLooks := .later }
def ReasonsHoldCardSaid : Prop := Claim7.holds Tryz.pinned (.plain (OpenSpec.ofChange reasonsHoldSpec)) reasonsHoldCard

/-- THE TIED CARD OF 'committeelaw2.ReasonsEnd'. -/
def reasonsEndCard : Claim7 := { stood := { row := reasonsEndRow, standIns := [], harness := (true, "7971bd5e7250100467f7a0c24694084c7fe5a460d949bea5339a88fe887def63"), looks := true }, kinds := [], alts := [], laidByText := true, laidKinds := [.data, .data, .data, .data, .sentinel, .sentinel, .pinned], laidTests := true, laidLooks := .later }
def ReasonsEndCardSaid : Prop := Claim7.holds Tryz.pinned (.plain (OpenSpec.ofChange reasonsEndSpec)) reasonsEndCard

/-- THE TIED CARD OF 'committeelaw2.PersonsNear'. -/
def personsNearCard : Claim7 := { stood := { row := personsNearRow, standIns := [], harness := (true, "7971bd5e7250100467f7a0c24694084c7fe5a460d949bea5339a88fe887def63"), looks := true }, kinds := [], alts := [], laidByText := true, laidKinds := [.data, .data, .data, .data, .sentinel, .sentinel, .pinned], laidTests := true, laidLooks := .later }
def PersonsNearCardSaid : Prop := Claim7.holds Tryz.pinned (.plain (OpenSpec.ofChange personsNearSpec)) personsNearCard

/-- THE SECOND FORM's CARD OF 'committeelaw2.WorldChecks'. -/
def worldChecksUptoCard : Claim7 := { stood := { row := worldChecksUptoRow, standIns := [], harness := (true, "7971bd5e7250100467f7a0c24694084c7fe5a460d949bea5339a88fe887def63"), looks := true }, kinds := [], alts := [], laidByText := true, laidKinds := [.data, .data, .data, .data, .sentinel, .sentinel, .pinned], laidTests := true, laidLooks := .later }
def WorldChecksUptoCardSaid : Prop := Claim7.holds Tryz.pinned (.plain (OpenSpec.upto worldChecksSpec)) worldChecksUptoCard

/-- THE SECOND FORM's CARD OF 'committeelaw2.PlacesAbove'. -/
def placesAboveUptoCard : Claim7 := { stood := { row := placesAboveUptoRow, standIns := [], harness := (true, "7971bd5e7250100467f7a0c24694084c7fe5a460d949bea5339a88fe887def63"), looks := true }, kinds := [], alts := [], laidByText := true, laidKinds := [.data, .data, .data, .data, .sentinel, .sentinel, .pinned], laidTests := true, laidLooks := .later }
def PlacesAboveUptoCardSaid : Prop := Claim7.holds Tryz.pinned (.plain (OpenSpec.upto placesAboveSpec)) placesAboveUptoCard

/-- THE SECOND FORM's CARD OF 'committeelaw2.NamesAndHomes'. -/
def namesAndHomesUptoCard : Claim7 := { stood := { row := namesAndHomesUptoRow, standIns := [], harness := (true, "7971bd5e7250100467f7a0c24694084c7fe5a460d949bea5339a88fe887def63"), looks := true }, kinds := [], alts := [], laidByText := true, laidKinds := [.data, .data, .data, .data, .sentinel, .sentinel, .pinned], laidTests := true, laidLooks := .later }
def NamesAndHomesUptoCardSaid : Prop := Claim7.holds Tryz.pinned (.plain (OpenSpec.upto namesAndHomesSpec)) namesAndHomesUptoCard

/-- THE SECOND FORM's CARD OF 'committeelaw2.PersonsFound'. -/
def personsFoundUptoCard : Claim7 := { stood := { row := personsFoundUptoRow, standIns := [], harness := (true, "7971bd5e7250100467f7a0c24694084c7fe5a460d949bea5339a88fe887def63"), looks := true }, kinds := [], alts := [], laidByText := true, laidKinds := [.data, .data, .data, .data, .sentinel, .sentinel, .pinned], laidTests := true, laidLooks := .later }
def PersonsFoundUptoCardSaid : Prop := Claim7.holds Tryz.pinned (.plain (OpenSpec.upto personsFoundSpec)) personsFoundUptoCard

/-- THE SECOND FORM's CARD OF 'committeelaw2.ReasonsHold'. -/
def reasonsHoldUptoCard : Claim7 := { stood := { row := reasonsHoldUptoRow, standIns := [], harness := (true, "7971bd5e7250100467f7a0c24694084c7fe5a460d949bea5339a88fe887def63"), looks := true }, kinds := [], alts := [], laidByText := true, laidKinds := [.data, .data, .data, .data, .sentinel, .sentinel, .pinned], laidTests := true, laidLooks := .later }
def ReasonsHoldUptoCardSaid : Prop := Claim7.holds Tryz.pinned (.plain (OpenSpec.upto reasonsHoldSpec)) reasonsHoldUptoCard

/-- THE SECOND FORM's CARD OF 'committeelaw2.ReasonsEnd'. -/
def reasonsEndUptoCard : Claim7 := { stood := { row := reasonsEndUptoRow, standIns := [], harness := (true, "7971bd5e7250100467f7a0c24694084c7fe5a460d949bea5339a88fe887def63"), looks := true }, kinds := [], alts := [], laidByText := true, laidKinds := [.data, .data, .data, .data, .sentinel, .sentinel, .pinned], laidTests := true, laidLooks := .later }
def ReasonsEndUptoCardSaid : Prop := Claim7.holds Tryz.pinned (.plain (OpenSpec.upto reasonsEndSpec)) reasonsEndUptoCard

/-- THE SECOND FORM's CARD OF 'committeelaw2.PersonsNear'. -/
def personsNearUptoCard : Claim7 := { stood := { row := personsNearUptoRow, standIns := [], harness := (true, "7971bd5e7250100467f7a0c24694084c7fe5a460d949bea5339a88fe887def63"), looks := true }, kinds := [], alts := [], laidByText := true, laidKinds := [.data, .data, .data, .data, .sentinel, .sentinel, .pinned], laidTests := true, laidLooks := .later }
def PersonsNearUptoCardSaid : Prop := Claim7.holds Tryz.pinned (.plain (OpenSpec.upto personsNearSpec)) personsNearUptoCard
end Rows
end Go.Proofs.YtgobnlgmbplggaaGreatDoor
