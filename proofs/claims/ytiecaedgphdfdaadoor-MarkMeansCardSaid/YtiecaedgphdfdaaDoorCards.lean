/-
  DERIVED. GIVEN WITH THE SEED: THE CARDS: each row of YtiecaedgphdfdaaDoorRows.lean that lists a variable, with what it lists TIED to the program's text (the seventh form; the later family's looks); each row that meets fmt, with fmt's text TOLD by the authors' own Lean function (tested against real Go, not proved from fmt's source: count such statements apart). THE CARD IS WHAT COUNTS. Prove the row's statement (the work); the ties are given (YtiecaedgphdfdaaDoorTie.lean); close each card by the builder's one call (the guide's Derived/Test/ToyasCard.lean, 'card_holds'). Laid BY PROGRAM, IN A SANDBOX (cutbox-door.mjs). By AI agents, Wed Nov 11 2026. No macro, syntax, notation, axiom, sorry.
-/
import Derived.Test.YtiecaedgphdfdaaDoorRows
import GoSem.ClaimSeven
namespace Go.Proofs.YtiecaedgphdfdaaDoor
namespace Rows

/-- THE TIED CARD OF 'committeelaw2.MarkMeans'. -/
def markMeansCard : Claim7 := { stood := { row := markMeansRow, standIns := [], harness := (true, "cbcfc7576b002a1fae4ae70bf175652b84962dc6b83baeeb009248787fa8548c"), looks := false }, kinds := [], alts := [], laidByText := true, laidKinds := [.data, .pinned], laidTests := true, laidLooks := .later }
def MarkMeansCardSaid : Prop := Claim7.holds Tryd.pinned (.plain (OpenSpec.ofChange markMeansSpec)) markMeansCard

/-- THE SECOND FORM's CARD OF 'committeelaw2.MarkMeans'. -/
def markMeansUptoCard : Claim7 := { stood := { row := markMeansUptoRow, standIns := [], harness := (true, "cbcfc7576b002a1fae4ae70bf175652b84962dc6b83baeeb009248787fa8548c"), looks := false }, kinds := [], alts := [], laidByText := true, laidKinds := [.data, .pinned], laidTests := true, laidLooks := .later }
def MarkMeansUptoCardSaid : Prop := Claim7.holds Tryd.pinned (.plain (OpenSpec.upto markMeansSpec)) markMeansUptoCard
end Rows
end Go.Proofs.YtiecaedgphdfdaaDoor
