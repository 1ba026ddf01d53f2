/- clone and cloneAll. -/
import Derived.Test.YthhmgblcccbdaaaGreatDoorBv
namespace Go.Proofs.YthhmgblcccbdaaaGreatDoor
open Go.RowKit

end Go.Proofs.YthhmgblcccbdaaaGreatDoor
