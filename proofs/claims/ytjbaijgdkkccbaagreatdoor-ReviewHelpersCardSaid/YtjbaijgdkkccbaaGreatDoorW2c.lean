/- Facts of ReviewHelpers's row: recurses, named. -/
import Derived.Test.YtjbaijgdkkccbaaGreatDoorWi
namespace Go.Proofs.YtjbaijgdkkccbaaGreatDoor.ReviewHelpers
open Go.ChangeShapes Go.WideShapes Go.ChangeAt Go.RowKit
set_option linter.unusedVariables false

set_option maxRecDepth 1000000 in
theorem fRecurses : (Rows.reviewHelpersRow.recurses == Tryz.prog.recurses 4) = true:=by kernel_rfl
set_option maxRecDepth 1000000 in
theorem fNamed : (Rows.reviewHelpersRow.named == Tryz.prog.varsNamed 4) = true:=by kernel_rfl
end Go.Proofs.YtjbaijgdkkccbaaGreatDoor.ReviewHelpers
