/- What the library's variables hold, out of a row's cells. -/
import Derived.Test.YtbpbhpmkganefaaDoorWa
import Derived.Test.YtbpbhpmkganefaaDoorGa
import Derived.Test.YtbpbhpmkganefaaDoorSk
import Derived.Shelf.Vars
namespace Go.Proofs.YtbpbhpmkganefaaDoor
open Go.ChangeShapes Go.WideShapes Go.ChangeAt Go.RowKit

theorem first_eq : Rows.laid_unicode_utf8_first = Lib.firstData := by kernel_rfl
theorem accept_eq : (Rows.laid_unicode_utf8_acceptRanges : DataW Unit) = Lib.acceptData := by kernel_rfl
theorem glob_of {W : World} (hL : laidMet Tryd.prog [("unicode/utf8.acceptRanges", Rows.laid_unicode_utf8_acceptRanges), ("unicode/utf8.first", Rows.laid_unicode_utf8_first)] W) (hS : W.ShapedOpen Tryd.prog) : Glob W := by
  refine ⟨Tryd.utf8_tabs ?_ ?_, ?_⟩
  · rw [← first_eq]; exact Lib.laidMet.reads hL (.tail _ (.head _))
  · rw [← accept_eq]; exact Lib.laidMet.reads hL (.head _)
  · exact cell_of_shapedOpen_int (t := 3) (zero := #[.int .i64 0]) hS (of_decide_eq_true (by kernel_rfl)) (by kernel_rfl) rfl (by kernel_rfl) (by kernel_rfl) Tryd.underlying3
end Go.Proofs.YtbpbhpmkganefaaDoor
