/-
  DERIVED. GIVEN WITH THE SEED: THE CARDS: each row of YtbpbhpmkganefaaGreatDoorRows.lean that lists a variable, with what it lists TIED to the program's text (the seventh form; the later family's looks); each row that meets fmt, with fmt's text TOLD by the authors' own Lean function (tested against real Go, not proved from fmt's source: count such statements apart). THE CARD IS WHAT COUNTS. Prove the row's statement (the work); the ties are given (YtbpbhpmkganefaaGreatDoorTie.lean); close each card by the builder's one call (the guide's Derived/Test/ToyasCard.lean, 'card_holds'). Laid BY PROGRAM, IN A SANDBOX (cutbox-door.mjs). By AI agents, Wed Nov 11 2026. No macro, syntax, notation, axiom, sorry.
-/
import Derived.Test.YtbpbhpmkganefaaGreatDoorRows
import GoSem.ClaimSeven
namespace Go.Proofs.YtbpbhpmkganefaaGreatDoor
namespace Rows

/-- THE TIED CARD OF 'committeelaw2.VolumeIndex'. -/
def volumeIndexCard : Claim7 := { stood := { row := volumeIndexRow, standIns := [], harness := (true, "0c5ad6e3f86961f6cbc6ccbe39975a7881fa2615797490c2b34aed2c2081a477"), looks := false }, kinds := [], alts := [], laidByText := true, laidKinds := [.data, .data, .data, .data, .listed, .data, .pinned], laidTests := true, laidLooks := .later }
def VolumeIndexCardSaid : Prop := Claim7.holds Tryz.pinned (.plain (OpenSpec.ofChange volumeIndexSpec)) volumeIndexCard

/-- THE SECOND FORM's CARD OF 'committeelaw2.VolumeIndex'. -/
def volumeIndexUptoCard : Claim7 := { stood := { row := volumeIndexUptoRow, standIns := [], harness := (true, "0c5ad6e3f86961f6cbc6ccbe39975a7881fa2615797490c2b34aed2c2081a477"), looks := false }, kinds := [], alts := [], laidByText := true, laidKinds := [.data, .data, .data, .data, .listed, .data, .pinned], laidTests := true, laidLooks := .later }
def VolumeIndexUptoCardSaid : Prop := Claim7.holds Tryz.pinned (.plain (OpenSpec.upto volumeIndexSpec)) volumeIndexUptoCard
end Rows
end Go.Proofs.YtbpbhpmkganefaaGreatDoor
