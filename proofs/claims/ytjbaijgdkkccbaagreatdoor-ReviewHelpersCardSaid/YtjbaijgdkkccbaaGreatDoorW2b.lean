/- Facts of ReviewHelpers's row: inPlace, unfollowed. -/
import Derived.Test.YtjbaijgdkkccbaaGreatDoorWi
namespace Go.Proofs.YtjbaijgdkkccbaaGreatDoor.ReviewHelpers
open Go.ChangeShapes Go.WideShapes Go.ChangeAt Go.RowKit
set_option linter.unusedVariables false

set_option maxRecDepth 1000000 in
theorem fInPlace : (Rows.reviewHelpersRow.inPlace == Tryz.prog.inPlace 4) = true:=by kernel_rfl
set_option maxRecDepth 1000000 in
theorem fUnfollowed : (Rows.reviewHelpersRow.unfollowed == Tryz.prog.unfollowed 4) = true:=by kernel_rfl
end Go.Proofs.YtjbaijgdkkccbaaGreatDoor.ReviewHelpers
