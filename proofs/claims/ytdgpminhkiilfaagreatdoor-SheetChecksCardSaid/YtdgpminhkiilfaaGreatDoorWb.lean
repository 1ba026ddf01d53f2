/- The argument of a law: a slice of numbers that came in; a stream over it. -/
import Derived.Test.YtdgpminhkiilfaaGreatDoorZb
namespace Go.Proofs.YtdgpminhkiilfaaGreatDoor
open Go.RowKit

/-- What the walk is told of a slice of numbers that came in. -/
def IsRow (w : World) (a : Option Addr) (len cap : Nat) : Prop := len ≤ cap ∧ len ≤ 9223372036854775807 ∧ ∃ zs, Sl RInt 1 (fun k => k < w.heap.size) w a len zs
/-- A new stream over it. -/
theorem IsRow.start {w : World} {a : Option Addr} {len cap : Nat} (h : IsRow w a len cap) :
    Str ⟨w.heap.size, a, len, cap⟩ (w.alloc (.cells #[.slice a len cap, .int .i64 0] 25)) 0 := by
  obtain ⟨_, h1, zs, h2⟩ := h
  exact ⟨heap_at _ _ _ rfl, ⟨zs, h2.keep RInt.ok (Kept.alloc _ _ _)⟩, h1⟩

end Go.Proofs.YtdgpminhkiilfaaGreatDoor
