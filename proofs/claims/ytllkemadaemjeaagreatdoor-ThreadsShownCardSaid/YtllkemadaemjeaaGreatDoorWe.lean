/- utf8's tables, out of a row's cells. -/
import Derived.Test.YtllkemadaemjeaaGreatDoorWa
import Derived.Test.YtllkemadaemjeaaGreatDoorDh
import Derived.Test.YtllkemadaemjeaaGreatDoorSk
import Derived.Shelf.Vars
namespace Go.Proofs.YtllkemadaemjeaaGreatDoor
open Go.ChangeShapes Go.WideShapes Go.ChangeAt Go.RowKit

theorem first_eqT : Rows.laid_unicode_utf8_first = Lib.firstData := by kernel_rfl
theorem accept_eqT : (Rows.laid_unicode_utf8_acceptRanges : DataW Unit) = Lib.acceptData := by kernel_rfl
theorem tabs_of {W : World} (hL : laidMet Tryz.prog [("unicode/utf8.acceptRanges", Rows.laid_unicode_utf8_acceptRanges), ("unicode/utf8.first", Rows.laid_unicode_utf8_first)] W) : Tabs W := by
  refine ⟨Tryz.utf8_tabs ?_ ?_⟩
  · rw [← first_eqT]; exact Lib.laidMet.reads hL (.tail _ (.head _))
  · rw [← accept_eqT]; exact Lib.laidMet.reads hL (.head _)
/-- The tables lie below whatever is laid next. -/
theorem Tabs.lt {w : World} (h : Tabs w) : 0 < w.heap.size ∧ 1 < w.heap.size :=
  ⟨lt_of_cell (h.tabs.1 0 (by decide)), lt_of_cell (h.tabs.2 0 (by decide)).1⟩
end Go.Proofs.YtllkemadaemjeaaGreatDoor
