/- Keys that must rise: RisingFault and rising. -/
import Derived.Test.YtjbaijgdkkccbaaGreatDoorQc
import Derived.Test.YtjbaijgdkkccbaaGreatDoorKb
import Derived.Test.YtjbaijgdkkccbaaGreatDoorRa
import Derived.Test.YtjbaijgdkkccbaaGreatDoorSd
namespace Go.Proofs.YtjbaijgdkkccbaaGreatDoor
open Go.RowKit

/-- The error of keys that must rise, behind p. -/
noncomputable def riseF (p : Option ByteArray) : List ByteArray → Int
  | [] => 0
  | s :: l => if isKeyB s = false then 5 else if (match p with | none => false | some q => leB s q) = true then 7 else riseF (some s) l
theorem riseF_cons (p : Option ByteArray) (s : ByteArray) (l : List ByteArray) : riseF p (s :: l) = if isKeyB s = false then 5 else if (match p with | none => false | some q => leB s q) = true then 7 else riseF (some s) l := rfl
/-- The walk over keys up to place k has found nothing. -/
def RiseAt (ss : List ByteArray) (k : Nat) : Prop := riseF none ss = riseF (ss.take k).getLast? (ss.drop k)

theorem RiseAt.name {ss : List ByteArray} {k : Nat} {y : ByteArray} (h : RiseAt ss k) (hy : ss[k]? = some y) (hn : isKeyB y = false) : riseF none ss = 5 := by
  rw [h, drop_at hy, riseF_cons, if_pos hn]
theorem RiseAt.first {ss : List ByteArray} {y : ByteArray} (h : RiseAt ss 0) (hy : ss[0]? = some y) (hn : isKeyB y = true) : RiseAt ss 1 := by
  unfold RiseAt at *
  rw [h, drop_at hy, last_take hy, riseF_cons, if_neg (by simp [hn])]
  simp
theorem RiseAt.order {ss : List ByteArray} {k : Nat} {x y : ByteArray} (h : RiseAt ss (k + 1)) (hx : ss[k]? = some x) (hy : ss[k + 1]? = some y) (hn : isKeyB y = true) (hl : leB y x = true) : riseF none ss = 7 := by
  rw [h, drop_at hy, last_take hx, riseF_cons, if_neg (by simp [hn])]
  exact if_pos hl
theorem RiseAt.next {ss : List ByteArray} {k : Nat} {x y : ByteArray} (h : RiseAt ss (k + 1)) (hx : ss[k]? = some x) (hy : ss[k + 1]? = some y) (hn : isKeyB y = true) (hl : leB y x = false) : RiseAt ss (k + 1 + 1) := by
  unfold RiseAt at *
  rw [h, drop_at hy, last_take hx, last_take hy, riseF_cons, if_neg (by simp [hn])]
  exact if_neg (by simp [hl])

end Go.Proofs.YtjbaijgdkkccbaaGreatDoor

/- Boards: how pairs and turns lie in memory; what CheckPairs, CheckBoard, Open and May compute. No program in sight. -/
namespace Go.Proofs.YtjbaijgdkkccbaaGreatDoor
open Go.RowKit

/-- Whether a pair does not rise behind another. -/
def ordP (p : Option Pair2) (m : Pair2) : Bool := match p with | none => false | some q => decide (0 ≤ cmpP q.paper q.person m.paper m.person)
noncomputable def pairF (p : Option Pair2) (m : Pair2) : Int := if isKeyB m.paper = false then 5 else if isKeyB m.person = false then 5 else if ordP p m = true then 7 else 0
noncomputable def pairsG (p : Option Pair2) : List Pair2 → Int
  | [] => 0
  | x :: l => if pairF p x ≠ 0 then pairF p x else pairsG (some x) l
theorem pairsG_cons (p : Option Pair2) (x : Pair2) (l : List Pair2) : pairsG p (x :: l) = if pairF p x ≠ 0 then pairF p x else pairsG (some x) l := rfl
/-- The walk over pairs up to place k has found nothing. -/
def PairsAt (xs : List Pair2) (k : Nat) : Prop := pairsG none xs = pairsG (xs.take k).getLast? (xs.drop k)
section
variable {xs : List Pair2} {k : Nat} {x : Pair2} {p : Option Pair2}
theorem PairsAt.zero (xs : List Pair2) : PairsAt xs 0 := by simp [PairsAt]
theorem PairsAt.bad {e : Int} (h : PairsAt xs k) (hx : xs[k]? = some x) (hf : pairF (xs.take k).getLast? x = e) (he : e ≠ 0) : pairsG none xs = e := by
  rw [h, drop_at hx, pairsG_cons, hf, if_pos he]
theorem PairsAt.next (h : PairsAt xs k) (hx : xs[k]? = some x) (hf : pairF (xs.take k).getLast? x = 0) : PairsAt xs (k + 1) := by
  unfold PairsAt at *
  rw [h, drop_at hx, pairsG_cons, hf, if_neg (by simp), last_take hx]
theorem PairsAt.ok (h : PairsAt xs k) (hk : xs.length ≤ k) : pairsG none xs = 0 := by
  rw [h, List.drop_of_length_le hk]; rfl
end
/-- Whether a pair is in a list. -/
def inP (l : List Pair2) (a b : ByteArray) : Bool := l.any fun q => decide (q.paper = a ∧ q.person = b)

/-- A turn of a board. -/
structure Turn3 where
  tm : Int
  paper : ByteArray
  op : Bool
def RTurn : Rel Turn3 := fun _ _ vs x => vs = [.int .i64 x.tm, .string x.paper, .bool x.op] ∧ x.paper.size ≤ 1000000
theorem RTurn.ok : RTurn.Ok := ⟨fun _ h => h, fun _ h => h, fun h => h⟩
/-- Whether the thread of a paper is open behind turns. -/
def lastOp (l : List Turn3) (p : ByteArray) : Bool := l.foldl (fun b t => if t.paper = p then t.op else b) false
/-- The same at a moment. -/
def openAt (l : List Turn3) (p : ByteArray) (m : Int) : Bool := l.foldl (fun b t => if t.paper = p ∧ t.tm ≤ m then t.op else b) false
def earlier (p : Option Turn3) (t : Turn3) : Bool := match p with | none => false | some q => decide (t.tm < q.tm)
noncomputable def turnF (pre : List Turn3) (t : Turn3) : Int := if t.tm < 0 ∨ 5761440 ≤ t.tm then 1 else if earlier pre.getLast? t = true then 7 else if isKeyB t.paper = false then 5 else if lastOp pre t.paper = t.op then 11 else 0
noncomputable def turnsG (pre : List Turn3) : List Turn3 → Int
  | [] => 0
  | x :: l => if turnF pre x ≠ 0 then turnF pre x else turnsG (pre ++ [x]) l
theorem turnsG_cons (p : List Turn3) (x : Turn3) (l : List Turn3) : turnsG p (x :: l) = if turnF p x ≠ 0 then turnF p x else turnsG (p ++ [x]) l := rfl
/-- The walk over turns up to place k has found nothing. -/
def TurnAt (xs : List Turn3) (k : Nat) : Prop := turnsG [] xs = turnsG (xs.take k) (xs.drop k)
section
variable {xs : List Turn3} {k : Nat} {x : Turn3} {p : List Turn3}
theorem TurnAt.zero (xs : List Turn3) : TurnAt xs 0 := by simp [TurnAt]
theorem TurnAt.bad {e : Int} (h : TurnAt xs k) (hx : xs[k]? = some x) (hf : turnF (xs.take k) x = e) (he : e ≠ 0) : turnsG [] xs = e := by
  rw [h, drop_at hx, turnsG_cons, hf, if_pos he]
theorem TurnAt.next (h : TurnAt xs k) (hx : xs[k]? = some x) (hf : turnF (xs.take k) x = 0) : TurnAt xs (k + 1) := by
  have e : xs.take (k + 1) = xs.take k ++ [x] := by rw [List.take_add_one, hx]; rfl
  unfold TurnAt at *
  rw [h, drop_at hx, turnsG_cons, hf, if_neg (by simp), e]
theorem TurnAt.ok (h : TurnAt xs k) (hk : xs.length ≤ k) : turnsG [] xs = 0 := by
  rw [h, List.drop_of_length_le hk]; rfl
end

/-- A board. -/
structure Board4 where
  pairs : List Pair2
  barred : List Pair2
  heads : List ByteArray
  turns : List Turn3
def mayB (b : Board4) (p q : ByteArray) (m : Int) : Bool := openAt b.turns p m && !inP b.barred p q && (memB q b.heads || inP b.pairs p q)
end Go.Proofs.YtjbaijgdkkccbaaGreatDoor
