/- clone and cloneAll. -/
import Derived.Test.YtjbaijgdkkccbaaGreatDoorBv
namespace Go.Proofs.YtjbaijgdkkccbaaGreatDoor
open Go.RowKit

end Go.Proofs.YtjbaijgdkkccbaaGreatDoor

/- Add and AddOf. -/
namespace Go.Proofs.YtjbaijgdkkccbaaGreatDoor
open Go.RowKit

/-- A review with the next number. -/
def numR (xs : List Rev) (x : Rev) : Rev := ⟨(xs.length : Int) + 1, x.tm, x.paper, x.person, x.by_, x.done, x.answers⟩
/-- What is given back: the reviews with one more, or nothing and an error. -/
def AddV (z : Int) (xs : List Rev) (x : Rev) (e : Ending) (w' : World) : Prop :=
  (z = 0 → ∃ (p : Option Addr) (c : Nat), e = .returned (.tuple #[.slice p (xs.length + 1) c, .int .i64 0]) ∧ Sl RRev 7 (fun _ => True) w' p (xs.length + 1) (xs ++ [numR xs x])) ∧ (z ≠ 0 → e = .returned (.tuple #[.slice none 0 0, .int .i64 z]))
theorem AddV.bad {z : Int} {xs : List Rev} {x : Rev} {w' : World} (h : z ≠ 0) : AddV z xs x (.returned (.tuple #[.slice none 0 0, .int .i64 z])) w' := ⟨fun h0 => absurd h0 h, fun _ => rfl⟩
end Go.Proofs.YtjbaijgdkkccbaaGreatDoor
