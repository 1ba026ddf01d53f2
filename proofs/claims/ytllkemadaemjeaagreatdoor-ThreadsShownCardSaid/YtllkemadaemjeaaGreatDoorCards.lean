/-
  DERIVED. GIVEN WITH THE SEED: THE CARDS: each row of YtllkemadaemjeaaGreatDoorRows.lean that lists a variable, with what it lists TIED to the program's text (the seventh form; the later family's looks); each row that meets fmt, with fmt's text TOLD by the authors' own Lean function (tested against real Go, not proved from fmt's source: count such statements apart). THE CARD IS WHAT COUNTS. Prove the row's statement (the work); the ties are given (YtllkemadaemjeaaGreatDoorTie.lean); close each card by the builder's one call (the guide's Derived/Test/ToyasCard.lean, 'card_holds'). Laid BY PROGRAM, IN A SANDBOX (cutbox-door.mjs). By AI agents, Wed Nov 11 2026. No macro, syntax, notation, axiom, sorry.
-/
import Derived.Test.YtllkemadaemjeaaGreatDoorRows
import GoSem.ClaimSeven
namespace Go.Proofs.YtllkemadaemjeaaGreatDoor
namespace Rows

/-- THE TIED CARD OF 'committeelaw2.MeetingMoves'. -/
def meetingMovesCard : Claim7 := { stood := { row := meetingMovesRow, standIns := [], harness := (true, "4366a33188dfb6196c0e10f4b8ddce2518bde38cfbc7f39fceb13e2098038fda"), looks := false }, kinds := [], alts := [], laidByText := true, laidKinds := [.data, .pinned], laidTests := true, laidLooks := .later }
def MeetingMovesCardSaid : Prop := Claim7.holds Tryz.pinned (.plain (OpenSpec.ofChange meetingMovesSpec)) meetingMovesCard

/-- THE TIED CARD OF 'committeelaw2.PostChecks'. -/
def postChecksCard : Claim7 := { stood := { row := postChecksRow, standIns := [], harness := (true, "4366a33188dfb6196c0e10f4b8ddce2518bde38cfbc7f39fceb13e2098038fda"), looks := false }, kinds := [], alts := [], laidByText := true, laidKinds := [.data, .pinned], laidTests := true, laidLooks := .later }
def PostChecksCardSaid : Prop := Claim7.holds Tryz.pinned (.plain (OpenSpec.ofChange postChecksSpec)) postChecksCard

/-- THE TIED CARD OF 'committeelaw2.RepliesCounted'. -/
def repliesCountedCard : Claim7 := { stood := { row := repliesCountedRow, standIns := [], harness := (true, "4366a33188dfb6196c0e10f4b8ddce2518bde38cfbc7f39fceb13e2098038fda"), looks := false }, kinds := [], alts := [], laidByText := true, laidKinds := [.data, .pinned], laidTests := true, laidLooks := .later }
def RepliesCountedCardSaid : Prop := Claim7.holds Tryz.pinned (.plain (OpenSpec.ofChange repliesCountedSpec)) repliesCountedCard

/-- THE TIED CARD OF 'committeelaw2.ThreadsShown'. -/
def threadsShownCard : Claim7 := { stood := { row := threadsShownRow, standIns := [], harness := (true, "4366a33188dfb6196c0e10f4b8ddce2518bde38cfbc7f39fceb13e2098038fda"), looks := false }, kinds := [], alts := [], laidByText := true, laidKinds := [.data, .pinned], laidTests := true, laidLooks := .later }
def ThreadsShownCardSaid : Prop := Claim7.holds Tryz.pinned (.plain (OpenSpec.ofChange threadsShownSpec)) threadsShownCard

/-- THE SECOND FORM's CARD OF 'committeelaw2.MeetingMoves'. -/
def meetingMovesUptoCard : Claim7 := { stood := { row := meetingMovesUptoRow, standIns := [], harness := (true, "4366a33188dfb6196c0e10f4b8ddce2518bde38cfbc7f39fceb13e2098038fda"), looks := false }, kinds := [], alts := [], laidByText := true, laidKinds := [.data, .pinned], laidTests := true, laidLooks := .later }
def MeetingMovesUptoCardSaid : Prop := Claim7.holds Tryz.pinned (.plain (OpenSpec.upto meetingMovesSpec)) meetingMovesUptoCard

/-- THE SECOND FORM's CARD OF 'committeelaw2.PostChecks'. -/
def postChecksUptoCard : Claim7 := { stood := { row := postChecksUptoRow, standIns := [], harness := (true, "4366a33188dfb6196c0e10f4b8ddce2518bde38cfbc7f39fceb13e2098038fda"), looks := false }, kinds := [], alts := [], laidByText := true, laidKinds := [.data, .pinned], laidTests := true, laidLooks := .later }
def PostChecksUptoCardSaid : Prop := Claim7.holds Tryz.pinned (.plain (OpenSpec.upto postChecksSpec)) postChecksUptoCard

/-- THE SECOND FORM's CARD OF 'committeelaw2.RepliesCounted'. -/
def repliesCountedUptoCard : Claim7 := { stood := { row := repliesCountedUptoRow, standIns := [], harness := (true, "4366a33188dfb6196c0e10f4b8ddce2518bde38cfbc7f39fceb13e2098038fda"), looks := false }, kinds := [], alts := [], laidByText := true, laidKinds := [.data, .pinned], laidTests := true, laidLooks := .later }
def RepliesCountedUptoCardSaid : Prop := Claim7.holds Tryz.pinned (.plain (OpenSpec.upto repliesCountedSpec)) repliesCountedUptoCard

/-- THE SECOND FORM's CARD OF 'committeelaw2.ThreadsShown'. -/
def threadsShownUptoCard : Claim7 := { stood := { row := threadsShownUptoRow, standIns := [], harness := (true, "4366a33188dfb6196c0e10f4b8ddce2518bde38cfbc7f39fceb13e2098038fda"), looks := false }, kinds := [], alts := [], laidByText := true, laidKinds := [.data, .pinned], laidTests := true, laidLooks := .later }
def ThreadsShownUptoCardSaid : Prop := Claim7.holds Tryz.pinned (.plain (OpenSpec.upto threadsShownSpec)) threadsShownUptoCard
end Rows
end Go.Proofs.YtllkemadaemjeaaGreatDoor
