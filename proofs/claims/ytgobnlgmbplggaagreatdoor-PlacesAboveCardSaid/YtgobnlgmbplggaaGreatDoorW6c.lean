/- Facts of PlacesAbove's row: recurses, named. -/
import Derived.Test.YtgobnlgmbplggaaGreatDoorZd
namespace Go.Proofs.YtgobnlgmbplggaaGreatDoor.PlacesAbove
open Go.ChangeShapes Go.WideShapes Go.ChangeAt Go.RowKit
set_option linter.unusedVariables false

set_option maxRecDepth 1000000 in
theorem fRecurses : (Rows.placesAboveRow.recurses == Tryz.prog.recurses 4) = true := by kernel_rfl
set_option maxRecDepth 1000000 in
theorem fNamed : (Rows.placesAboveRow.named == Tryz.prog.varsNamed 4) = true := by kernel_rfl
end Go.Proofs.YtgobnlgmbplggaaGreatDoor.PlacesAbove
