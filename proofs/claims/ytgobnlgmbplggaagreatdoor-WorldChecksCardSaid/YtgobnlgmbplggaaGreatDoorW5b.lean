/- Facts of WorldChecks's row: inPlace, unfollowed. -/
import Derived.Test.YtgobnlgmbplggaaGreatDoorZd
namespace Go.Proofs.YtgobnlgmbplggaaGreatDoor.WorldChecks
open Go.ChangeShapes Go.WideShapes Go.ChangeAt Go.RowKit
set_option linter.unusedVariables false

set_option maxRecDepth 1000000 in
theorem fInPlace : (Rows.worldChecksRow.inPlace == Tryz.prog.inPlace 3) = true := by kernel_rfl
set_option maxRecDepth 1000000 in
theorem fUnfollowed : (Rows.worldChecksRow.unfollowed == Tryz.prog.unfollowed 3) = true := by kernel_rfl
end Go.Proofs.YtgobnlgmbplggaaGreatDoor.WorldChecks
