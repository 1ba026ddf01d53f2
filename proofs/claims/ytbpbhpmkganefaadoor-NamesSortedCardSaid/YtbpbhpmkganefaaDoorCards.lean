/-
  DERIVED. GIVEN WITH THE SEED: THE CARDS: each row of YtbpbhpmkganefaaDoorRows.lean that lists a variable, with what it lists TIED to the program's text (the seventh form; the later family's looks); each row that meets fmt, with fmt's text TOLD by the authors' own Lean function (tested against real Go, not proved from fmt's source: count such statements apart). THE CARD IS WHAT COUNTS. Prove the row's statement (the work); the ties are given (YtbpbhpmkganefaaDoorTie.lean); close each card by the builder's one call (the guide's Derived/Test/ToyasCard.lean, 'card_holds'). Laid BY PROGRAM, IN A SANDBOX (cutbox-door.mjs). By AI agents, Wed Nov 11 2026. No macro, syntax, notation, axiom, sorry.
-/
import Derived.Test.YtbpbhpmkganefaaDoorRows
import GoSem.ClaimSeven
namespace Go.Proofs.YtbpbhpmkganefaaDoor
namespace Rows

/-- THE TIED CARD OF 'committeelaw2.NamesSorted'. -/
def namesSortedCard : Claim7 := { stood := { row := namesSortedRow, standIns := [], harness := (true, "0cff6d9d1355a81f3bdbd891cf74291e7b53ea224abda3364d7f4e77abd73801"), looks := false }, kinds := [], alts := [], laidByText := true, laidKinds := [.data, .listed, .data, .pinned], laidTests := true, laidLooks := .later }
def NamesSortedCardSaid : Prop := Claim7.holds Tryd.pinned (.plain (OpenSpec.ofChange namesSortedSpec)) namesSortedCard

/-- THE SECOND FORM's CARD OF 'committeelaw2.NamesSorted'. -/
def namesSortedUptoCard : Claim7 := { stood := { row := namesSortedUptoRow, standIns := [], harness := (true, "0cff6d9d1355a81f3bdbd891cf74291e7b53ea224abda3364d7f4e77abd73801"), looks := false }, kinds := [], alts := [], laidByText := true, laidKinds := [.data, .listed, .data, .pinned], laidTests := true, laidLooks := .later }
def NamesSortedUptoCardSaid : Prop := Claim7.holds Tryd.pinned (.plain (OpenSpec.upto namesSortedSpec)) namesSortedUptoCard
end Rows
end Go.Proofs.YtbpbhpmkganefaaDoor
