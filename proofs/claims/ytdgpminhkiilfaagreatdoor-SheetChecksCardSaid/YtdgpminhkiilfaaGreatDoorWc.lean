/- What the library's variables hold, out of a row's cells. -/
import Derived.Test.YtdgpminhkiilfaaGreatDoorWa
import Derived.Test.YtdgpminhkiilfaaGreatDoorGa
import Derived.Test.YtdgpminhkiilfaaGreatDoorSk
import Derived.Shelf.Vars
namespace Go.Proofs.YtdgpminhkiilfaaGreatDoor
open Go.ChangeShapes Go.WideShapes Go.ChangeAt Go.RowKit

theorem first_eq : Rows.laid_unicode_utf8_first = Lib.firstData := by kernel_rfl
theorem accept_eq : (Rows.laid_unicode_utf8_acceptRanges : DataW Unit) = Lib.acceptData := by kernel_rfl
theorem glob_of {W : World} (hL : laidMet Tryz.prog [("unicode/utf8.acceptRanges", Rows.laid_unicode_utf8_acceptRanges), ("unicode/utf8.first", Rows.laid_unicode_utf8_first)] W) (hS : W.ShapedOpen Tryz.prog) : Glob W := by
  refine ⟨Tryz.utf8_tabs ?_ ?_, ?_⟩
  · rw [← first_eq]; exact Lib.laidMet.reads hL (.tail _ (.head _))
  · rw [← accept_eq]; exact Lib.laidMet.reads hL (.head _)
  · exact cell_of_shapedOpen_int (t := 3) (zero := #[.int .i64 0]) hS (of_decide_eq_true (by kernel_rfl)) (by kernel_rfl) rfl (by kernel_rfl) (by kernel_rfl) Tryz.underlying3
end Go.Proofs.YtdgpminhkiilfaaGreatDoor
