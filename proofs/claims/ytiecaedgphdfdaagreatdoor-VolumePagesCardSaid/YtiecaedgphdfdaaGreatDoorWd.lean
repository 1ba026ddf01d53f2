/- Rows that list five tables: a world for the witness; what the tables hold. -/
import Derived.Test.YtiecaedgphdfdaaGreatDoorWa
import Derived.Test.YtiecaedgphdfdaaGreatDoorWc
import Derived.Test.YtiecaedgphdfdaaGreatDoorNb
import Derived.Lib.LaidTab
namespace Go.Proofs.YtiecaedgphdfdaaGreatDoor
open Go.ChangeShapes Go.WideShapes Go.ChangeAt Go.RowKit

def litCell : DataW Unit → Value
  | .lit (.int k n) => .int k n
  | _ => .int .i64 0
def litCells : DataW Unit → Array Value
  | .agg ps => (ps.map litCell).toArray
  | _ => #[]
noncomputable def laidWorld5 (os : Os) : World :=
  { laidWorld os with heap := (((laidWorld os).heap.modify 4 (setTab (litCells Rows.laid_math_bits_deBruijn32tab))).modify 5 (setTab (litCells Rows.laid_math_bits_deBruijn64tab))).modify 3 (setTab (litCells Rows.laid_internal_strconv_uint64pow10)) }
theorem pow_eq : (Rows.laid_internal_strconv_uint64pow10 : DataW Unit) = Lib.tabData .u64 Lib.pow10Tab := by kernel_rfl
theorem pow_type : (Tryz.prog.globals[3]?).map (·.type) = some 234 := by kernel_rfl
theorem pow_of_reads {W : World} (h : Lib.VarReads Tryz.prog W "internal/strconv.uint64pow10" (Lib.tabData .u64 Lib.pow10Tab)) : Pow W := by
  obtain ⟨g', t', cs, fuel, p, hg', ht', hvar, hd⟩ := h
  obtain rfl := Option.some.inj (pow_named.symm.trans hg')
  obtain rfl := Option.some.inj (pow_type.symm.trans ht')
  unfold Pow Lib.TabIs
  rw [hvar, ← Lib.cells_of_tab Tryz.underlying234 Tryz.underlying201 (by kernel_rfl) (by kernel_rfl) hd]
theorem glob_of5 {W : World} (hL : laidMet Tryz.prog [("math/bits.deBruijn32tab", Rows.laid_math_bits_deBruijn32tab), ("math/bits.deBruijn64tab", Rows.laid_math_bits_deBruijn64tab), ("internal/strconv.uint64pow10", Rows.laid_internal_strconv_uint64pow10), ("unicode/utf8.acceptRanges", Rows.laid_unicode_utf8_acceptRanges), ("unicode/utf8.first", Rows.laid_unicode_utf8_first)] W) (hS : W.ShapedOpen Tryz.prog) : Glob W ∧ Pow W := by
  refine ⟨⟨Tryz.utf8_tabs ?_ ?_, ?_⟩, pow_of_reads ?_⟩
  · rw [← first_eq]; exact Lib.laidMet.reads hL (by simp)
  · rw [← accept_eq]; exact Lib.laidMet.reads hL (by simp)
  · exact cell_of_shapedOpen_int (t := 3) (zero := #[.int .i64 0]) hS (of_decide_eq_true (by kernel_rfl)) (by kernel_rfl) rfl (by kernel_rfl) (by kernel_rfl) Tryz.underlying3
  · rw [← pow_eq]; exact Lib.laidMet.reads hL (by simp)
end Go.Proofs.YtiecaedgphdfdaaGreatDoor
