/- Facts of SheetTexts's row: inPlace, unfollowed. -/
import Derived.Test.YtjbaijgdkkccbaaGreatDoorWi
namespace Go.Proofs.YtjbaijgdkkccbaaGreatDoor.SheetTexts
open Go.ChangeShapes Go.WideShapes Go.ChangeAt Go.RowKit
set_option linter.unusedVariables false

set_option maxRecDepth 1000000 in
theorem fInPlace : (Rows.sheetTextsRow.inPlace == Tryz.prog.inPlace 7) = true := by kernel_rfl
set_option maxRecDepth 1000000 in
theorem fUnfollowed : (Rows.sheetTextsRow.unfollowed == Tryz.prog.unfollowed 7) = true := by kernel_rfl
end Go.Proofs.YtjbaijgdkkccbaaGreatDoor.SheetTexts
