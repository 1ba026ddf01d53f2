/- Rows that list utf8's two tables, strconv's powers, bits' two and strconv's two errors: a world for the witness; what the tables hold. -/
import Derived.Test.YtdgpminhkiilfaaGreatDoorWa
import Derived.Test.YtdgpminhkiilfaaGreatDoorWc
import Derived.Lib.LaidTab
namespace Go.Proofs.YtdgpminhkiilfaaGreatDoor
open Go.ChangeShapes Go.WideShapes Go.ChangeAt Go.RowKit

def litCellN : DataW Unit → Value
  | .lit (.int k n) => .int k n
  | _ => .int .i64 0
def litCellsN : DataW Unit → Array Value
  | .agg ps => (ps.map litCellN).toArray
  | _ => #[]
noncomputable def laidWorldE (os : Os) : World :=
  { laidWorld os with heap := ((((((laidWorld os).heap.modify 6 (setTab (litCellsN Rows.laid_math_bits_deBruijn32tab))).modify 7 (setTab (litCellsN Rows.laid_math_bits_deBruijn64tab))).modify 3 (setTab (litCellsN Rows.laid_internal_strconv_uint64pow10))).modify 5 (setTab #[.iface 257 (.pointer (some ⟨(laidWorld os).heap.size, 0, none⟩))])).modify 4 (setTab #[.iface 257 (.pointer (some ⟨(laidWorld os).heap.size + 1, 0, none⟩))])) ++ #[.cells #[.string ⟨#[118, 97, 108, 117, 101, 32, 111, 117, 116, 32, 111, 102, 32, 114, 97, 110, 103, 101]⟩] 259 (0, 0), .cells #[.string ⟨#[105, 110, 118, 97, 108, 105, 100, 32, 115, 121, 110, 116, 97, 120]⟩] 259 (0, 0)] }
theorem glob_ofE {W : World} (hL : laidMet Tryz.prog [("math/bits.deBruijn32tab", Rows.laid_math_bits_deBruijn32tab), ("math/bits.deBruijn64tab", Rows.laid_math_bits_deBruijn64tab), ("internal/strconv.uint64pow10", Rows.laid_internal_strconv_uint64pow10), ("unicode/utf8.acceptRanges", Rows.laid_unicode_utf8_acceptRanges), ("strconv.ErrRange", Rows.laid_strconv_ErrRange), ("strconv.ErrSyntax", Rows.laid_strconv_ErrSyntax), ("unicode/utf8.first", Rows.laid_unicode_utf8_first)] W) (hS : W.ShapedOpen Tryz.prog) : Glob W := by
  refine ⟨Tryz.utf8_tabs ?_ ?_, ?_⟩
  · rw [← first_eq]; exact Lib.laidMet.reads hL (by simp)
  · rw [← accept_eq]; exact Lib.laidMet.reads hL (by simp)
  · exact cell_of_shapedOpen_int (t := 3) (zero := #[.int .i64 0]) hS (of_decide_eq_true (by kernel_rfl)) (by kernel_rfl) rfl (by kernel_rfl) (by kernel_rfl) Tryz.underlying3
end Go.Proofs.YtdgpminhkiilfaaGreatDoor
