/- Marks: how they lie in memory; what CheckMarks, MarksFault, scoresOf, scores and Mean compute. No program in sight. -/
import Derived.Test.YtjbaijgdkkccbaaGreatDoorQc
namespace Go.Proofs.YtjbaijgdkkccbaaGreatDoor
open Go.RowKit

structure Mark3 where
  paper : ByteArray
  person : ByteArray
  score : Int
def RMark : Rel Mark3 := fun _ _ vs x => vs = [.string x.paper, .string x.person, .int .i64 x.score] ∧ x.paper.size ≤ 1000000 ∧ x.person.size ≤ 1000000
theorem RMark.ok : RMark.Ok := ⟨fun _ h => h, fun _ h => h, fun h => h⟩
/-- Pairs are compared by paper, then by person. -/
def cmpP (a1 a2 b1 b2 : ByteArray) : Int := if Lib.compareBytes a1.data.toList b1.data.toList ≠ 0 then Lib.compareBytes a1.data.toList b1.data.toList else Lib.compareBytes a2.data.toList b2.data.toList
def ordM (p : Option Mark3) (m : Mark3) : Bool := match p with | none => false | some q => decide (0 ≤ cmpP q.paper q.person m.paper m.person)
noncomputable def markF (p : Option Mark3) (m : Mark3) : Int :=
  if isKeyB m.paper = false then 5 else if isKeyB m.person = false then 5 else if ordM p m = true then 7 else if m.score < 0 ∨ 10 < m.score then 1 else 0
noncomputable def marksG (p : Option Mark3) : List Mark3 → Int
  | [] => 0
  | x :: l => if markF p x ≠ 0 then markF p x else marksG (some x) l
theorem marksG_cons (p : Option Mark3) (x : Mark3) (l : List Mark3) : marksG p (x :: l) = if markF p x ≠ 0 then markF p x else marksG (some x) l := rfl
/-- The walk over marks up to place k has found nothing. -/
def MarkAt (xs : List Mark3) (k : Nat) : Prop := marksG none xs = marksG (xs.take k).getLast? (xs.drop k)
section
variable {xs : List Mark3} {k : Nat} {x : Mark3} {p : Option Mark3}
theorem MarkAt.zero (xs : List Mark3) : MarkAt xs 0 := by simp [MarkAt]
theorem MarkAt.bad {e : Int} (h : MarkAt xs k) (hx : xs[k]? = some x) (hf : markF (xs.take k).getLast? x = e) (he : e ≠ 0) : marksG none xs = e := by
  rw [h, drop_at hx, marksG_cons, hf, if_pos he]
theorem MarkAt.next (h : MarkAt xs k) (hx : xs[k]? = some x) (hf : markF (xs.take k).getLast? x = 0) : MarkAt xs (k + 1) := by
  unfold MarkAt at *
  rw [h, drop_at hx, marksG_cons, hf, if_neg (by simp), last_take hx]
theorem MarkAt.ok (h : MarkAt xs k) (hk : xs.length ≤ k) : marksG none xs = 0 := by
  rw [h, List.drop_of_length_le hk]; rfl
end
end Go.Proofs.YtjbaijgdkkccbaaGreatDoor
