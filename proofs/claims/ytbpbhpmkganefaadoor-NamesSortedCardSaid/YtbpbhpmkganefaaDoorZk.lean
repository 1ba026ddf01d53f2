/- What the operations of a region that draws its order leave, where nothing that was there changes. -/
import Derived.Test.YtbpbhpmkganefaaDoorZi
import Derived.Test.YtbpbhpmkganefaaDoorYa
namespace Go.Proofs.YtbpbhpmkganefaaDoor
open Go.RowKit

/-- The value is this one. -/
def QIs (u : Value) (v : Value) (_ : World) : Prop := v = u
theorem QIs.stays (u : Value) : Stays All (QIs u) := fun _ _ _ _ h => h
/-- A row of the call's own reads so. -/
def QAcc {α : Type} (R : Rel α) (sz : Nat) (T : TypeId) (B : Nat) (xs : List α) (v : Value) (w : World) : Prop := ∃ p c, v = .slice p xs.length c ∧ Acc R sz T (fun _ => False) B w (.slice p xs.length c) xs
theorem QAcc.stays {α : Type} {R : Rel α} (ok : R.Ok) (sz : Nat) (T : TypeId) (B : Nat) (xs : List α) : Stays All (QAcc R sz T B xs) := fun _ _ _ k ⟨p, c, h1, h2⟩ => ⟨p, c, h1, h2.keepAll ok k⟩
/-- A slice of one element that was written out. -/
def QRow (cs : Array Value) (T : TypeId) (v : Value) (w : World) : Prop := ∃ b, v = .slice (some ⟨b, 0, none⟩) 1 1 ∧ w.heap[b]? = some (.cells cs T (0, 0))
theorem QRow.stays (cs : Array Value) (T : TypeId) : Stays All (QRow cs T) := fun _ _ _ k ⟨b, h1, h2⟩ => ⟨b, h1, k.heap h2 trivial⟩
end Go.Proofs.YtbpbhpmkganefaaDoor
