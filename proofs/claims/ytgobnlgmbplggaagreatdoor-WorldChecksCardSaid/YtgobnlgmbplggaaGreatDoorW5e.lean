/- A fact of WorldChecks's row: it starts no goroutine. -/
import Derived.Test.YtgobnlgmbplggaaGreatDoorZd
namespace Go.Proofs.YtgobnlgmbplggaaGreatDoor.WorldChecks
open Go.ChangeShapes Go.WideShapes Go.ChangeAt Go.RowKit
set_option linter.unusedVariables false

set_option maxRecDepth 1000000 in
theorem fGoes : false = OpenClaim.goesBy Rows.worldChecksRow Tryz.pinned.checked.prog := by kernel_rfl
end Go.Proofs.YtgobnlgmbplggaaGreatDoor.WorldChecks
