/- What the library's tables hold, strconv's too. -/
import Derived.Test.YthhmgblcccbdaaaGreatDoorGa
import Derived.Test.YthhmgblcccbdaaaGreatDoorNb
namespace Go.Proofs.YthhmgblcccbdaaaGreatDoor
open Go.RowKit

structure GlobP (w : World) : Prop where
  g : Glob w
  p : Pow w
theorem GlobP.keep {w w' : World} (h : GlobP w) (k : All w w') : GlobP w' := ⟨h.g.keep k, h.p.keep k⟩
end Go.Proofs.YthhmgblcccbdaaaGreatDoor
