/- A fact of SheetTexts's row: it starts no goroutine. -/
import Derived.Test.YtjbaijgdkkccbaaGreatDoorWi
namespace Go.Proofs.YtjbaijgdkkccbaaGreatDoor.SheetTexts
open Go.ChangeShapes Go.WideShapes Go.ChangeAt Go.RowKit
set_option linter.unusedVariables false

set_option maxRecDepth 1000000 in
theorem fGoes : false = OpenClaim.goesBy Rows.sheetTextsRow Tryz.pinned.checked.prog := by kernel_rfl
end Go.Proofs.YtjbaijgdkkccbaaGreatDoor.SheetTexts
