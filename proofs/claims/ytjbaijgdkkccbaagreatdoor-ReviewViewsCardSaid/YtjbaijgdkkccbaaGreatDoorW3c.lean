/- Facts of ReviewViews's row: recurses, named. -/
import Derived.Test.YtjbaijgdkkccbaaGreatDoorWi
namespace Go.Proofs.YtjbaijgdkkccbaaGreatDoor.ReviewViews
open Go.ChangeShapes Go.WideShapes Go.ChangeAt Go.RowKit
set_option linter.unusedVariables false

set_option maxRecDepth 1000000 in
theorem fRecurses : (Rows.reviewViewsRow.recurses == Tryz.prog.recurses 5) = true:=by kernel_rfl
set_option maxRecDepth 1000000 in
theorem fNamed : (Rows.reviewViewsRow.named == Tryz.prog.varsNamed 5) = true:=by kernel_rfl
end Go.Proofs.YtjbaijgdkkccbaaGreatDoor.ReviewViews
