/- Facts of ReviewLevels's row: recurses, named. -/
import Derived.Test.YtjbaijgdkkccbaaGreatDoorWi
namespace Go.Proofs.YtjbaijgdkkccbaaGreatDoor.ReviewLevels
open Go.ChangeShapes Go.WideShapes Go.ChangeAt Go.RowKit
set_option linter.unusedVariables false

set_option maxRecDepth 1000000 in
theorem fRecurses : (Rows.reviewLevelsRow.recurses == Tryz.prog.recurses 3) = true := by kernel_rfl
set_option maxRecDepth 1000000 in
theorem fNamed : (Rows.reviewLevelsRow.named == Tryz.prog.varsNamed 3) = true := by kernel_rfl
end Go.Proofs.YtjbaijgdkkccbaaGreatDoor.ReviewLevels
