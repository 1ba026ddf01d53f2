/-
  DERIVED. GIVEN WITH THE SEED: THE CARDS: each row of YteanedcfiellkaaDoorRows.lean that lists a variable, with what it lists TIED to the program's text (the seventh form; the later family's looks); each row that meets fmt, with fmt's text TOLD by the authors' own Lean function (tested against real Go, not proved from fmt's source: count such statements apart). THE CARD IS WHAT COUNTS. Prove the row's statement (the work); the ties are given (YteanedcfiellkaaDoorTie.lean); close each card by the builder's one call (the guide's Derived/Test/ToyasCard.lean, 'card_holds'). Laid BY PROGRAM, IN A SANDBOX (cutbox-door.mjs). By AI agents, Wed Nov 11 2026. No macro, syntax, notation, axiom, sorry.
-/
import Derived.Test.YteanedcfiellkaaDoorRows
import GoSem.ClaimSeven
namespace Go.Proofs.YteanedcfiellkaaDoor
namespace Rows

/-- THE TIED CARD OF 'committeelaw2.BallotChecks'. -/
def ballotChecksCard : Claim7 := { stood := { row := ballotChecksRow, standIns := [], harness := (true, "2a86d3533e624d893ab2df40142d3366773c3e5280ae418e46715a26417c4d0a"), looks := false }, kinds := [], alts := [], laidByText := true, laidKinds := [.data, .pinned], laidTests := true, laidLooks := .later }
def BallotChecksCardSaid : Prop := Claim7.holds Tryd.pinned (.plain (OpenSpec.ofChange ballotChecksSpec)) ballotChecksCard

/-- THE TIED CARD OF 'committeelaw2.BallotsBeat'. -/
def ballotsBeatCard : Claim7 := { stood := { row := ballotsBeatRow, standIns := [], harness := (true, "2a86d3533e624d893ab2df40142d3366773c3e5280ae418e46715a26417c4d0a"), looks := false }, kinds := [], alts := [], laidByText := true, laidKinds := [.data, .pinned], laidTests := true, laidLooks := .later }
def BallotsBeatCardSaid : Prop := Claim7.holds Tryd.pinned (.plain (OpenSpec.ofChange ballotsBeatSpec)) ballotsBeatCard

/-- THE TIED CARD OF 'committeelaw2.VolumeChecks'. -/
def volumeChecksCard : Claim7 := { stood := { row := volumeChecksRow, standIns := [], harness := (true, "2a86d3533e624d893ab2df40142d3366773c3e5280ae418e46715a26417c4d0a"), looks := false }, kinds := [], alts := [], laidByText := true, laidKinds := [.data, .pinned], laidTests := true, laidLooks := .later }
def VolumeChecksCardSaid : Prop := Claim7.holds Tryd.pinned (.plain (OpenSpec.ofChange volumeChecksSpec)) volumeChecksCard

/-- THE TIED CARD OF 'committeelaw2.ErrataApplied'. -/
def errataAppliedCard : Claim7 := { stood := { row := errataAppliedRow, standIns := [], harness := (true, "2a86d3533e624d893ab2df40142d3366773c3e5280ae418e46715a26417c4d0a"), looks := false }, kinds := [], alts := [], laidByText := true, laidKinds := [.data, .pinned], laidTests := true, laidLooks := .later }
def ErrataAppliedCardSaid : Prop := Claim7.holds Tryd.pinned (.plain (OpenSpec.ofChange errataAppliedSpec)) errataAppliedCard

/-- THE TIED CARD OF 'committeelaw2.BallotsElect'. -/
def ballotsElectCard : Claim7 := { stood := { row := ballotsElectRow, standIns := [], harness := (true, "2a86d3533e624d893ab2df40142d3366773c3e5280ae418e46715a26417c4d0a"), looks := false }, kinds := [], alts := [], laidByText := true, laidKinds := [.data, .pinned], laidTests := true, laidLooks := .later }
def BallotsElectCardSaid : Prop := Claim7.holds Tryd.pinned (.plain (OpenSpec.ofChange ballotsElectSpec)) ballotsElectCard

/-- THE TIED CARD OF 'committeelaw2.NamesSorted'. -/
def namesSortedCard : Claim7 := { stood := { row := namesSortedRow, standIns := [], harness := (true, "2a86d3533e624d893ab2df40142d3366773c3e5280ae418e46715a26417c4d0a"), looks := false }, kinds := [], alts := [], laidByText := true, laidKinds := [.data, .listed, .data, .pinned], laidTests := true, laidLooks := .later }
def NamesSortedCardSaid : Prop := Claim7.holds Tryd.pinned (.plain (OpenSpec.ofChange namesSortedSpec)) namesSortedCard

/-- THE TIED CARD OF 'committeelaw2.FinalsMissing'. -/
def finalsMissingCard : Claim7 := { stood := { row := finalsMissingRow, standIns := [], harness := (true, "2a86d3533e624d893ab2df40142d3366773c3e5280ae418e46715a26417c4d0a"), looks := false }, kinds := [], alts := [], laidByText := true, laidKinds := [.data, .pinned], laidTests := true, laidLooks := .later }
def FinalsMissingCardSaid : Prop := Claim7.holds Tryd.pinned (.plain (OpenSpec.ofChange finalsMissingSpec)) finalsMissingCard

/-- THE SECOND FORM's CARD OF 'committeelaw2.BallotChecks'. -/
def ballotChecksUptoCard : Claim7 := { stood := { row := ballotChecksUptoRow, standIns := [], harness := (true, "2a86d3533e624d893ab2df40142d3366773c3e5280ae418e46715a26417c4d0a"), looks := false }, kinds := [], alts := [], laidByText := true, laidKinds := [.data, .pinned], laidTests := true, laidLooks := .later }
def BallotChecksUptoCardSaid : Prop := Claim7.holds Tryd.pinned (.plain (OpenSpec.upto ballotChecksSpec)) ballotChecksUptoCard

/-- THE SECOND FORM's CARD OF 'committeelaw2.BallotsBeat'. -/
def ballotsBeatUptoCard : Claim7 := { stood := { row := ballotsBeatUptoRow, standIns := [], harness := (true, "2a86d3533e624d893ab2df40142d3366773c3e5280ae418e46715a26417c4d0a"), looks := false }, kinds := [], alts := [], laidByText := true, laidKinds := [.data, .pinned], laidTests := true, laidLooks := .later }
def BallotsBeatUptoCardSaid : Prop := Claim7.holds Tryd.pinned (.plain (OpenSpec.upto ballotsBeatSpec)) ballotsBeatUptoCard

/-- THE SECOND FORM's CARD OF 'committeelaw2.VolumeChecks'. -/
def volumeChecksUptoCard : Claim7 := { stood := { row := volumeChecksUptoRow, standIns := [], harness := (true, "2a86d3533e624d893ab2df40142d3366773c3e5280ae418e46715a26417c4d0a"), looks := false }, kinds := [], alts := [], laidByText := true, laidKinds := [.data, .pinned], laidTests := true, laidLooks := .later }
def VolumeChecksUptoCardSaid : Prop := Claim7.holds Tryd.pinned (.plain (OpenSpec.upto volumeChecksSpec)) volumeChecksUptoCard

/-- THE SECOND FORM's CARD OF 'committeelaw2.ErrataApplied'. -/
def errataAppliedUptoCard : Claim7 := { stood := { row := errataAppliedUptoRow, standIns := [], harness := (true, "2a86d3533e624d893ab2df40142d3366773c3e5280ae418e46715a26417c4d0a"), looks := false }, kinds := [], alts := [], laidByText := true, laidKinds := [.data, .pinned], laidTests := true, laidLooks := .later }
def ErrataAppliedUptoCardSaid : Prop := Claim7.holds Tryd.pinned (.plain (OpenSpec.upto errataAppliedSpec)) errataAppliedUptoCard

/-- THE SECOND FORM's CARD OF 'committeelaw2.BallotsElect'. -/
def ballotsElectUptoCard : Claim7 := { stood := { row := ballotsElectUptoRow, standIns := [], harness := (true, "2a86d3533e624d893ab2df40142d3366773c3e5280ae418e46715a26417c4d0a"), looks := false }, kinds := [], alts := [], laidByText := true, laidKinds := [.data, .pinned], laidTests := true, laidLooks := .later }
def BallotsElectUptoCardSaid : Prop := Claim7.holds Tryd.pinned (.plain (OpenSpec.upto ballotsElectSpec)) ballotsElectUptoCard

/-- THE SECOND FORM's CARD OF 'committeelaw2.NamesSorted'. -/
def namesSortedUptoCard : Claim7 := { stood := { row := namesSortedUptoRow, standIns := [], harness := (true, "2a86d3533e624d893ab2df40142d3366773c3e5280ae418e46715a26417c4d0a"), looks := false }, kinds := [], alts := [], laidByText := true, laidKinds := [.data, .listed, .data, .pinned], laidTests := true, laidLooks := .later }
def NamesSortedUptoCardSaid : Prop := Claim7.holds Tryd.pinned (.plain (OpenSpec.upto namesSortedSpec)) namesSortedUptoCard

/-- THE SECOND FORM's CARD OF 'committeelaw2.FinalsMissing'. -/
def finalsMissingUptoCard : Claim7 := { stood := { row := finalsMissingUptoRow, standIns := [], harness := (true, "2a86d3533e624d893ab2df40142d3366773c3e5280ae418e46715a26417c4d0a"), looks := false }, kinds := [], alts := [], laidByText := true, laidKinds := [.data, .pinned], laidTests := true, laidLooks := .later }
def FinalsMissingUptoCardSaid : Prop := Claim7.holds Tryd.pinned (.plain (OpenSpec.upto finalsMissingSpec)) finalsMissingUptoCard
end Rows
end Go.Proofs.YteanedcfiellkaaDoor
