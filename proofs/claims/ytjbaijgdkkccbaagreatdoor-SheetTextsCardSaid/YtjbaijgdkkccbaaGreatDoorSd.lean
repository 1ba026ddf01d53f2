/- Pairs are compared: cmp.Compare and slices.Compare of strings, ComparePairs, PairOrder. -/
import Derived.Test.YtjbaijgdkkccbaaGreatDoorRa
import Derived.Test.YtjbaijgdkkccbaaGreatDoorZc
import Derived.Test.YtjbaijgdkkccbaaGreatDoorSj
import Derived.Sort.Grow
import Derived.Sort.OwnSorted
import Derived.Shelf.SlSortCmp.Insertion
namespace Go.Proofs.YtjbaijgdkkccbaaGreatDoor
open Go.RowKit

end Go.Proofs.YtjbaijgdkkccbaaGreatDoor

/- Pairs, and rows that were sorted: plain. No program in sight. -/
namespace Go.Proofs.YtjbaijgdkkccbaaGreatDoor
open Go.RowKit Go.Sort

section
variable {α : Type} [Inhabited α] (enc : α → Value)
end

/-- A pair of short strings. -/
structure Pair2 where
  paper : ByteArray
  person : ByteArray
  h1 : paper.size ≤ 1000000
  h2 : person.size ≤ 1000000
instance : Inhabited Pair2 := ⟨⟨ByteArray.empty, ByteArray.empty, by decide, by decide⟩⟩
def encP (x : Pair2) : List Value := [.string x.paper, .string x.person]
def RPair : Rel Pair2 := fun _ _ vs x => vs = encP x
theorem RPair.ok : RPair.Ok := ⟨fun _ h => h, fun _ h => h, fun h => h⟩
end Go.Proofs.YtjbaijgdkkccbaaGreatDoor
