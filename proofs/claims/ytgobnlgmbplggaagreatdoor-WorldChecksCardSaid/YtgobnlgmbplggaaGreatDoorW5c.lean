/- Facts of WorldChecks's row: recurses, named. -/
import Derived.Test.YtgobnlgmbplggaaGreatDoorZd
namespace Go.Proofs.YtgobnlgmbplggaaGreatDoor.WorldChecks
open Go.ChangeShapes Go.WideShapes Go.ChangeAt Go.RowKit
set_option linter.unusedVariables false

set_option maxRecDepth 1000000 in
theorem fRecurses : (Rows.worldChecksRow.recurses == Tryz.prog.recurses 3) = true := by kernel_rfl
set_option maxRecDepth 1000000 in
theorem fNamed : (Rows.worldChecksRow.named == Tryz.prog.varsNamed 3) = true := by kernel_rfl
end Go.Proofs.YtgobnlgmbplggaaGreatDoor.WorldChecks
