/-
  DERIVED. GIVEN WITH THE SEED: THE CARDS: each row of YtiecaedgphdfdaaGreatDoorRows.lean that lists a variable, with what it lists TIED to the program's text (the seventh form; the later family's looks); each row that meets fmt, with fmt's text TOLD by the authors' own Lean function (tested against real Go, not proved from fmt's source: count such statements apart). THE CARD IS WHAT COUNTS. Prove the row's statement (the work); the ties are given (YtiecaedgphdfdaaGreatDoorTie.lean); close each card by the builder's one call (the guide's Derived/Test/ToyasCard.lean, 'card_holds'). Laid BY PROGRAM, IN A SANDBOX (cutbox-door.mjs). By AI agents, Wed Nov 11 2026. No macro, syntax, notation, axiom, sorry.
-/
import Derived.Test.YtiecaedgphdfdaaGreatDoorRows
import GoSem.ClaimSeven
namespace Go.Proofs.YtiecaedgphdfdaaGreatDoor
namespace Rows

/-- THE TIED CARD OF 'committeelaw2.VolumePages'. -/
def volumePagesCard : Claim7 := { stood := { row := volumePagesRow, standIns := [], harness := (true, "ce927f15be09d3faa6e28da61a66fda787ff8573a255e6b2a6f2573f97cb1a79"), looks := false }, kinds := [], alts := [], laidByText := true, laidKinds := [.data, .data, .data, .data, .pinned], laidTests := true, laidLooks := .later }
def VolumePagesCardSaid : Prop := Claim7.holds Tryz.pinned (.plain (OpenSpec.ofChange volumePagesSpec)) volumePagesCard

/-- THE TIED CARD OF 'committeelaw2.PapersCompared'. -/
def papersComparedCard : Claim7 := { stood := { row := papersComparedRow, standIns := [], harness := (true, "ce927f15be09d3faa6e28da61a66fda787ff8573a255e6b2a6f2573f97cb1a79"), looks := false }, kinds := [], alts := [], laidByText := true, laidKinds := [.data, .pinned], laidTests := true, laidLooks := .later }
def PapersComparedCardSaid : Prop := Claim7.holds Tryz.pinned (.plain (OpenSpec.ofChange papersComparedSpec)) papersComparedCard

/-- THE TIED CARD OF 'committeelaw2.TalksCalled'. -/
def talksCalledCard : Claim7 := { stood := { row := talksCalledRow, standIns := [], harness := (true, "ce927f15be09d3faa6e28da61a66fda787ff8573a255e6b2a6f2573f97cb1a79"), looks := false }, kinds := [], alts := [], laidByText := true, laidKinds := [.data, .pinned], laidTests := true, laidLooks := .later }
def TalksCalledCardSaid : Prop := Claim7.holds Tryz.pinned (.plain (OpenSpec.ofChange talksCalledSpec)) talksCalledCard

/-- THE TIED CARD OF 'committeelaw2.BoardsOpen'. -/
def boardsOpenCard : Claim7 := { stood := { row := boardsOpenRow, standIns := [], harness := (true, "ce927f15be09d3faa6e28da61a66fda787ff8573a255e6b2a6f2573f97cb1a79"), looks := false }, kinds := [], alts := [], laidByText := true, laidKinds := [.data, .pinned], laidTests := true, laidLooks := .later }
def BoardsOpenCardSaid : Prop := Claim7.holds Tryz.pinned (.plain (OpenSpec.ofChange boardsOpenSpec)) boardsOpenCard

/-- THE SECOND FORM's CARD OF 'committeelaw2.VolumePages'. -/
def volumePagesUptoCard : Claim7 := { stood := { row := volumePagesUptoRow, standIns := [], harness := (true, "ce927f15be09d3faa6e28da61a66fda787ff8573a255e6b2a6f2573f97cb1a79"), looks := false }, kinds := [], alts := [], laidByText := true, laidKinds := [.data, .data, .data, .data, .pinned], laidTests := true, laidLooks := .later }
def VolumePagesUptoCardSaid : Prop := Claim7.holds Tryz.pinned (.plain (OpenSpec.upto volumePagesSpec)) volumePagesUptoCard

/-- THE SECOND FORM's CARD OF 'committeelaw2.PapersCompared'. -/
def papersComparedUptoCard : Claim7 := { stood := { row := papersComparedUptoRow, standIns := [], harness := (true, "ce927f15be09d3faa6e28da61a66fda787ff8573a255e6b2a6f2573f97cb1a79"), looks := false }, kinds := [], alts := [], laidByText := true, laidKinds := [.data, .pinned], laidTests := true, laidLooks := .later }
def PapersComparedUptoCardSaid : Prop := Claim7.holds Tryz.pinned (.plain (OpenSpec.upto papersComparedSpec)) papersComparedUptoCard

/-- THE SECOND FORM's CARD OF 'committeelaw2.TalksCalled'. -/
def talksCalledUptoCard : Claim7 := { stood := { row := talksCalledUptoRow, standIns := [], harness := (true, "ce927f15be09d3faa6e28da61a66fda787ff8573a255e6b2a6f2573f97cb1a79"), looks := false }, kinds := [], alts := [], laidByText := true, laidKinds := [.data, .pinned], laidTests := true, laidLooks := .later }
def TalksCalledUptoCardSaid : Prop := Claim7.holds Tryz.pinned (.plain (OpenSpec.upto talksCalledSpec)) talksCalledUptoCard

/-- THE SECOND FORM's CARD OF 'committeelaw2.BoardsOpen'. -/
def boardsOpenUptoCard : Claim7 := { stood := { row := boardsOpenUptoRow, standIns := [], harness := (true, "ce927f15be09d3faa6e28da61a66fda787ff8573a255e6b2a6f2573f97cb1a79"), looks := false }, kinds := [], alts := [], laidByText := true, laidKinds := [.data, .pinned], laidTests := true, laidLooks := .later }
def BoardsOpenUptoCardSaid : Prop := Claim7.holds Tryz.pinned (.plain (OpenSpec.upto boardsOpenSpec)) boardsOpenUptoCard
end Rows
end Go.Proofs.YtiecaedgphdfdaaGreatDoor
