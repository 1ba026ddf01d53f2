/- The argument of a law: a slice of numbers that came in; a stream over it. -/
import Derived.Test.YtjbaijgdkkccbaaGreatDoorZc
import Derived.Test.YtjbaijgdkkccbaaGreatDoorCards
import Derived.Test.YtjbaijgdkkccbaaGreatDoorTie
import Derived.OpenShut
import Derived.Deep.DeepHandedRow
import Derived.Lib.LaidTab
import Derived.Test.YtjbaijgdkkccbaaGreatDoorGa
import Derived.Test.YtjbaijgdkkccbaaGreatDoorSk
import Derived.Shelf.Vars
import Derived.Test.YtjbaijgdkkccbaaGreatDoorFs
namespace Go.Proofs.YtjbaijgdkkccbaaGreatDoor
open Go.RowKit

/-- What the walk is told of a slice of numbers that came in. -/
def IsRow (w : World) (a : Option Addr) (len cap : Nat) : Prop := len ≤ cap ∧ len ≤ 9223372036854775807 ∧ ∃ zs, Sl RInt 1 (fun k => k < w.heap.size) w a len zs
/-- A new stream over it. -/
theorem IsRow.start {w : World} {a : Option Addr} {len cap : Nat} (h : IsRow w a len cap) :
    Str ⟨w.heap.size, a, len, cap⟩ (w.alloc (.cells #[.slice a len cap, .int .i64 0] 25)) 0 := by
  obtain ⟨_, h1, zs, h2⟩ := h
  exact ⟨heap_at _ _ _ rfl, ⟨zs, h2.keep RInt.ok (Kept.alloc _ _ _)⟩, h1⟩

end Go.Proofs.YtjbaijgdkkccbaaGreatDoor

/- What the frames of all laws of this seat share: the witness's world, the opening of the argument. -/
namespace Go.Proofs.YtjbaijgdkkccbaaGreatDoor
open Go.ChangeShapes Go.WideShapes Go.ChangeAt Go.RowKit

theorem own : ownKnob Tryz.prog.godebug = none := by kernel_rfl
theorem laidOut : laidOutB Tryz.prog = true := by kernel_rfl

theorem isRow_of_reads {H : Type} {enc : TypeId × Value → H} {W : World} {a0 : Option Addr} {len0 cap0 : Nat} {d0 : DataW H} {p0 : List MemPlace}
    (h0 : DataW.Trod enc Tryz.prog W 0 (fun _ => true) true 22 (Value.slice a0 len0 cap0) d0 p0) : IsRow W a0 len0 cap0 := by
  obtain ⟨fuel, hf⟩ := h0
  rcases open_ints Tryz.underlying22 Tryz.underlying3 (by kernel_rfl) hf with ⟨hcs, _⟩ | ⟨x, l, c, zs, hcs, _, hl, hm, hz, _, hcell, hwz⟩
  · simp [Value.cells] at hcs
    obtain ⟨rfl, rfl, rfl⟩ := hcs
    exact ⟨Nat.le_refl _, by omega, [], Sl.nil _ _ _ _ _⟩
  · simp [Value.cells] at hcs
    obtain ⟨rfl, rfl, rfl⟩ := hcs
    unfold maxLen at hm
    refine ⟨hl, by omega, zs.take len0, ?_⟩
    by_cases hl0 : len0 = 0
    · subst hl0; exact Sl.nil _ _ _ _ _
    · obtain ⟨b, off, spot⟩ := x
      have hz' : zs.length = cap0 := by simpa using hz
      have hc := hcell 0 (by omega)
      have hspot : spot = none := by simpa [Addr.add] using World.cell?_spot hc
      subst hspot
      refine Sl.of_ints (by simp; omega) (World.block_lt_of_cell? W _ hc) (fun i hi => ?_)
      have hci := hcell i (by omega)
      have hadd : (⟨b, off, none⟩ : Addr).add i = ⟨b, off + i, none⟩ := by
        unfold Addr.add; split
        · rename_i h0; rw [h0, Nat.add_zero]
        · rfl
      rw [hadd] at hci
      rw [hci]
      simp [List.getD_eq_getElem?_getD, hi]

/-- A world for the witness: the two tables hold what they are listed with. -/
def setTab (c : Array Value) : Obj → Obj
  | .cells _ t frozen => .cells c t frozen
  | o => o
def tabFirst : Array Value := (Go.Pinned.utf8FirstZ.map (fun n : Nat => Value.int .u8 (n : Int))).toArray
def tabAccept : Array Value := (([128, 191, 160, 191, 128, 159, 144, 191, 128, 143, 0, 0, 0, 0, 0, 0, 0, 0, 0, 0, 0, 0, 0, 0, 0, 0, 0, 0, 0, 0, 0, 0] : List Int).map (Value.int .u8)).toArray
noncomputable def laidWorld (os : Os) : World :=
  { World.holding Tryz.prog os ⟨#[], #[], []⟩ with heap := ((World.holding Tryz.prog os ⟨#[], #[], []⟩).heap.modify 4 (setTab tabFirst)).modify 5 (setTab tabAccept) }
end Go.Proofs.YtjbaijgdkkccbaaGreatDoor

/- What the library's variables hold, out of a row's cells. -/
namespace Go.Proofs.YtjbaijgdkkccbaaGreatDoor
open Go.ChangeShapes Go.WideShapes Go.ChangeAt Go.RowKit

theorem first_eq : Rows.laid_unicode_utf8_first = Lib.firstData := by kernel_rfl
theorem accept_eq : (Rows.laid_unicode_utf8_acceptRanges : DataW Unit) = Lib.acceptData := by kernel_rfl
end Go.Proofs.YtjbaijgdkkccbaaGreatDoor

/- Rows that list utf8's two tables, strconv's powers, bits' two and strconv's two errors: a world for the witness; what the tables hold. -/
namespace Go.Proofs.YtjbaijgdkkccbaaGreatDoor
open Go.ChangeShapes Go.WideShapes Go.ChangeAt Go.RowKit

def litCellN : DataW Unit → Value
  | .lit (.int k n) => .int k n
  | _ => .int .i64 0
def litCellsN : DataW Unit → Array Value
  | .agg ps => (ps.map litCellN).toArray
  | _ => #[]
noncomputable def laidWorldE (os : Os) : World :=
  { laidWorld os with heap := ((((((laidWorld os).heap.modify 6 (setTab (litCellsN Rows.laid_math_bits_deBruijn32tab))).modify 7 (setTab (litCellsN Rows.laid_math_bits_deBruijn64tab))).modify 1 (setTab (litCellsN Rows.laid_internal_strconv_uint64pow10))).modify 3 (setTab #[.iface 375 (.pointer (some ⟨(laidWorld os).heap.size, 0, none⟩))])).modify 2 (setTab #[.iface 375 (.pointer (some ⟨(laidWorld os).heap.size + 1, 0, none⟩))])) ++ #[.cells #[.string ⟨#[118, 97, 108, 117, 101, 32, 111, 117, 116, 32, 111, 102, 32, 114, 97, 110, 103, 101]⟩] 377 (0, 0), .cells #[.string ⟨#[105, 110, 118, 97, 108, 105, 100, 32, 115, 121, 110, 116, 97, 120]⟩] 377 (0, 0)] }
theorem glob_ofE {W : World} (hL : laidMet Tryz.prog [("math/bits.deBruijn32tab", Rows.laid_math_bits_deBruijn32tab), ("math/bits.deBruijn64tab", Rows.laid_math_bits_deBruijn64tab), ("internal/strconv.uint64pow10", Rows.laid_internal_strconv_uint64pow10), ("unicode/utf8.acceptRanges", Rows.laid_unicode_utf8_acceptRanges), ("strconv.ErrRange", Rows.laid_strconv_ErrRange), ("strconv.ErrSyntax", Rows.laid_strconv_ErrSyntax), ("unicode/utf8.first", Rows.laid_unicode_utf8_first)] W) (hS : W.ShapedOpen Tryz.prog) : Glob W := by
  refine ⟨Tryz.utf8_tabs ?_ ?_, ?_⟩
  · rw [← first_eq]; exact Lib.laidMet.reads hL (by simp)
  · rw [← accept_eq]; exact Lib.laidMet.reads hL (by simp)
  · exact cell_of_shapedOpen_int (t := 3) (zero := #[.int .i64 0]) hS (of_decide_eq_true (by kernel_rfl)) (by kernel_rfl) rfl (by kernel_rfl) (by kernel_rfl) Tryz.underlying3
end Go.Proofs.YtjbaijgdkkccbaaGreatDoor

/- Rows that list utf8's two tables, strconv's powers, bits' two and strconv's two errors: what strconv's powers hold. -/
namespace Go.Proofs.YtjbaijgdkkccbaaGreatDoor
open Go.ChangeShapes Go.WideShapes Go.ChangeAt Go.RowKit

theorem pow_eq : (Rows.laid_internal_strconv_uint64pow10 : DataW Unit) = Lib.tabData .u64 Lib.pow10Tab := by kernel_rfl
theorem pow_type : (Tryz.prog.globals[1]?).map (·.type) = some 357 := by kernel_rfl
theorem pow_of_reads {W : World} (h : Lib.VarReads Tryz.prog W "internal/strconv.uint64pow10" (Lib.tabData .u64 Lib.pow10Tab)) : Pow W := by
  obtain ⟨g', t', cs, fuel, p, hg', ht', hvar, hd⟩ := h
  obtain rfl := Option.some.inj (pow_named.symm.trans hg')
  obtain rfl := Option.some.inj (pow_type.symm.trans ht')
  unfold Pow Lib.TabIs
  rw [hvar, ← Lib.cells_of_tab Tryz.underlying357 Tryz.underlying269 (by kernel_rfl) (by kernel_rfl) hd]
theorem pow_ofE {W : World} (hL : laidMet Tryz.prog [("math/bits.deBruijn32tab", Rows.laid_math_bits_deBruijn32tab), ("math/bits.deBruijn64tab", Rows.laid_math_bits_deBruijn64tab), ("internal/strconv.uint64pow10", Rows.laid_internal_strconv_uint64pow10), ("unicode/utf8.acceptRanges", Rows.laid_unicode_utf8_acceptRanges), ("strconv.ErrRange", Rows.laid_strconv_ErrRange), ("strconv.ErrSyntax", Rows.laid_strconv_ErrSyntax), ("unicode/utf8.first", Rows.laid_unicode_utf8_first)] W) : Pow W := pow_of_reads (by rw [← pow_eq]; exact Lib.laidMet.reads hL (by simp))
end Go.Proofs.YtjbaijgdkkccbaaGreatDoor
