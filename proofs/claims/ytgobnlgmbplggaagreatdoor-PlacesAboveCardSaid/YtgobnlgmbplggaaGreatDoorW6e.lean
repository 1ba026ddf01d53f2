/- A fact of PlacesAbove's row: it starts no goroutine. -/
import Derived.Test.YtgobnlgmbplggaaGreatDoorZd
namespace Go.Proofs.YtgobnlgmbplggaaGreatDoor.PlacesAbove
open Go.ChangeShapes Go.WideShapes Go.ChangeAt Go.RowKit
set_option linter.unusedVariables false

set_option maxRecDepth 1000000 in
theorem fGoes : false = OpenClaim.goesBy Rows.placesAboveRow Tryz.pinned.checked.prog := by kernel_rfl
end Go.Proofs.YtgobnlgmbplggaaGreatDoor.PlacesAbove
