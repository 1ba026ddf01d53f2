/- Facts of SheetTexts's row: recurses, named. -/
import Derived.Test.YtjbaijgdkkccbaaGreatDoorWi
namespace Go.Proofs.YtjbaijgdkkccbaaGreatDoor.SheetTexts
open Go.ChangeShapes Go.WideShapes Go.ChangeAt Go.RowKit
set_option linter.unusedVariables false

set_option maxRecDepth 1000000 in
theorem fRecurses : (Rows.sheetTextsRow.recurses == Tryz.prog.recurses 7) = true := by kernel_rfl
set_option maxRecDepth 1000000 in
theorem fNamed : (Rows.sheetTextsRow.named == Tryz.prog.varsNamed 7) = true := by kernel_rfl
end Go.Proofs.YtjbaijgdkkccbaaGreatDoor.SheetTexts
