/- Rows that list utf8's two tables, strings' table of spaces and unicode's White_Space: a world for the witness; what the tables hold. -/
import Derived.Test.YtbpbhpmkganefaaDoorWa
import Derived.Test.YtbpbhpmkganefaaDoorWc
import Derived.Test.YtbpbhpmkganefaaDoorFo
import Derived.Lib.LaidTab
namespace Go.Proofs.YtbpbhpmkganefaaDoor
open Go.ChangeShapes Go.WideShapes Go.ChangeAt Go.RowKit

def litCellN : DataW Unit → Value
  | .lit (.int k n) => .int k n
  | _ => .int .i64 0
def litCellsN : DataW Unit → Array Value
  | .agg ps => (ps.map litCellN).toArray
  | _ => #[]
def r16Cells : Array Value := (([9, 13, 1, 32, 133, 101, 160, 5760, 5600, 8192, 8202, 1, 8232, 8233, 1, 8239, 8287, 48, 12288, 12288, 1] : List Int).map (Value.int .u16)).toArray
noncomputable def laidWorldN (os : Os) : World :=
  { laidWorld os with heap := (((laidWorld os).heap.modify 3 (setTab (litCellsN Rows.laid_strings_asciiSpace))).modify 4 (setTab #[.pointer (some ⟨(laidWorld os).heap.size, 0, none⟩)])) ++ #[.cells #[.slice (some ⟨(laidWorld os).heap.size + 1, 0, none⟩) 7 7, .slice none 0 0, .int .i64 2] 106 (0, 0), .cells r16Cells 109 (0, 0)] }
theorem space_eq : (Rows.laid_strings_asciiSpace : DataW Unit) = Lib.tabData .u8 Lib.asciiSpaceTab := by kernel_rfl
theorem space_type : (Tryd.prog.globals[3]?).map (·.type) = some 51 := by kernel_rfl
theorem space_of_reads {W : World} (h : Lib.VarReads Tryd.prog W "strings.asciiSpace" (Lib.tabData .u8 Lib.asciiSpaceTab)) : Lib.TabIs Tryd.prog W "strings.asciiSpace" .u8 Lib.asciiSpaceTab := by
  obtain ⟨g', t', cs, fuel, p, hg', ht', hvar, hd⟩ := h
  obtain rfl := Option.some.inj (space_named.symm.trans hg')
  obtain rfl := Option.some.inj (space_type.symm.trans ht')
  unfold Lib.TabIs
  rw [hvar, ← Lib.cells_of_tab Tryd.underlying51 Tryd.underlying5 (by kernel_rfl) (by kernel_rfl) hd]
theorem globS_of {W : World} (hL : laidMet Tryd.prog [("unicode/utf8.acceptRanges", Rows.laid_unicode_utf8_acceptRanges), ("unicode.White_Space", Rows.laid_unicode_White_Space), ("strings.asciiSpace", Rows.laid_strings_asciiSpace), ("unicode/utf8.first", Rows.laid_unicode_utf8_first)] W) (hS : W.ShapedOpen Tryd.prog) : GlobS W := by
  refine ⟨⟨Tryd.utf8_tabs ?_ ?_, ?_⟩, space_of_reads ?_⟩
  · rw [← first_eq]; exact Lib.laidMet.reads hL (by simp)
  · rw [← accept_eq]; exact Lib.laidMet.reads hL (by simp)
  · exact cell_of_shapedOpen_int (t := 3) (zero := #[.int .i64 0]) hS (of_decide_eq_true (by kernel_rfl)) (by kernel_rfl) rfl (by kernel_rfl) (by kernel_rfl) Tryd.underlying3
  · rw [← space_eq]; exact Lib.laidMet.reads hL (by simp)
end Go.Proofs.YtbpbhpmkganefaaDoor
