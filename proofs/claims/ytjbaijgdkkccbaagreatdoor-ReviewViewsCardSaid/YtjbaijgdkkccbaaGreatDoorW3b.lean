/- Facts of ReviewViews's row: inPlace, unfollowed. -/
import Derived.Test.YtjbaijgdkkccbaaGreatDoorWi
namespace Go.Proofs.YtjbaijgdkkccbaaGreatDoor.ReviewViews
open Go.ChangeShapes Go.WideShapes Go.ChangeAt Go.RowKit
set_option linter.unusedVariables false

set_option maxRecDepth 1000000 in
theorem fInPlace : (Rows.reviewViewsRow.inPlace == Tryz.prog.inPlace 5) = true:=by kernel_rfl
set_option maxRecDepth 1000000 in
theorem fUnfollowed : (Rows.reviewViewsRow.unfollowed == Tryz.prog.unfollowed 5) = true:=by kernel_rfl
end Go.Proofs.YtjbaijgdkkccbaaGreatDoor.ReviewViews
