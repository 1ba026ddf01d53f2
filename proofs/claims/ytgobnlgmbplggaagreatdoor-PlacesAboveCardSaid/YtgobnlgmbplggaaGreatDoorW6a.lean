/- The witness's world of PlacesAbove: what it holds. -/
import Derived.Test.YtgobnlgmbplggaaGreatDoorZd
import Derived.Deep.DeepLaidRun
import Derived.Test.YtgobnlgmbplggaaGreatDoorWj
namespace Go.Proofs.YtgobnlgmbplggaaGreatDoor.PlacesAbove
open Go.ChangeShapes Go.WideShapes Go.ChangeAt Go.RowKit
set_option linter.unusedVariables false

set_option maxRecDepth 1000000 in
theorem laid_met (os : Os) : laidMet Tryz.prog Rows.placesAboveRow.laid ((laidWorldE os).forCall (fun _ _ => 0) ⟨#[], #[.slice none 0 0], []⟩).memory :=
  laidMet_of_run3 8 (by kernel_rfl) (by kernel_rfl) (by kernel_rfl)
theorem reads (os : Os) {H : Type} (enc : TypeId × Value → H) : ∃ places, DataW.whole enc Tryz.prog ((laidWorldE os).forCall (fun _ _ => 0) ⟨#[], #[.slice none 0 0], []⟩).memory Tryz.f4.params.toList Rows.placesAboveSpec.vars false #[Value.slice none 0 0].toList 8 = some ([.nil], [], places) :=
  ⟨[], by kernel_rfl⟩
end Go.Proofs.YtgobnlgmbplggaaGreatDoor.PlacesAbove
