/- Facts of ReviewLevels's row: inPlace, unfollowed. -/
import Derived.Test.YtjbaijgdkkccbaaGreatDoorWi
namespace Go.Proofs.YtjbaijgdkkccbaaGreatDoor.ReviewLevels
open Go.ChangeShapes Go.WideShapes Go.ChangeAt Go.RowKit
set_option linter.unusedVariables false

set_option maxRecDepth 1000000 in
theorem fInPlace : (Rows.reviewLevelsRow.inPlace == Tryz.prog.inPlace 3) = true := by kernel_rfl
set_option maxRecDepth 1000000 in
theorem fUnfollowed : (Rows.reviewLevelsRow.unfollowed == Tryz.prog.unfollowed 3) = true := by kernel_rfl
end Go.Proofs.YtjbaijgdkkccbaaGreatDoor.ReviewLevels
