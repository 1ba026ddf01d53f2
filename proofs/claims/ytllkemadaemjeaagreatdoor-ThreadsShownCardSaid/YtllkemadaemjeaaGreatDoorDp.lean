/- Posts as flat elements; the ways of postF. No program in sight. -/
import Derived.Test.YtllkemadaemjeaaGreatDoorDb
import Derived.Test.YtllkemadaemjeaaGreatDoorYa
namespace Go.Proofs.YtllkemadaemjeaaGreatDoor
open Go.RowKit

instance : Inhabited Post6 := ⟨⟨0, 0, ByteArray.empty, ByteArray.empty, 0, ByteArray.empty⟩⟩
def encPost (x : Post6) : List Value := [.int .i64 x.no, .int .i64 x.tm, .string x.paper, .string x.person, .int .i64 x.ans, .string x.words]
def PostSmall (x : Post6) : Prop := x.paper.size ≤ 1000000 ∧ x.person.size ≤ 1000000 ∧ x.words.size ≤ 1000000
theorem flatPost : Flat RPost encPost PostSmall 6 :=
  ⟨fun _ _ _ _ => Iff.rfl, fun _ => rfl, by decide, fun x u hu => by simp [encPost] at hu; rcases hu with rfl | rfl | rfl | rfl | rfl | rfl <;> rfl⟩

section
variable {b : Board4} {pre : List Post6} {x : Post6}
theorem postF_no (h : ¬ x.no = (pre.length : Int) + 1) : postF b pre x = 1 := by rw [postF, if_pos h]
theorem postF_arg (h : x.no = (pre.length : Int) + 1) (h2 : x.tm < 0 ∨ 5761440 ≤ x.tm) : postF b pre x = 1 := by rw [postF, if_neg (by simp [h]), if_pos h2]
/-- What is known of a post behind the first tests. -/
structure PW1 (pre : List Post6) (x : Post6) : Prop where
  no : x.no = (pre.length : Int) + 1
  tm : ¬ (x.tm < 0 ∨ 5761440 ≤ x.tm)
theorem PW1.order (h : PW1 pre x) (h3 : earlierP pre.getLast? x = true) : postF b pre x = 7 := by rw [postF, if_neg (by simp [h.no]), if_neg h.tm, if_pos h3]
structure PW2 (pre : List Post6) (x : Post6) : Prop extends PW1 pre x where
  ord : earlierP pre.getLast? x = false
theorem PW2.name (h : PW2 pre x) (h3 : isKeyB x.paper = false) : postF b pre x = 5 := by rw [postF, if_neg (by simp [h.no]), if_neg h.tm, if_neg (by simp [h.ord]), if_pos h3]
theorem PW2.name2 (h : PW2 pre x) (h3 : isKeyB x.paper = true) (h4 : isKeyB x.person = false) : postF b pre x = 5 := by rw [postF, if_neg (by simp [h.no]), if_neg h.tm, if_neg (by simp [h.ord]), if_neg (by simp [h3]), if_pos h4]
structure PW3 (pre : List Post6) (x : Post6) : Prop extends PW2 pre x where
  key1 : isKeyB x.paper = true
  key2 : isKeyB x.person = true
theorem PW3.rule (h : PW3 pre x) (h3 : mayB b x.paper x.person x.tm = false) : postF b pre x = 16 := by rw [postF, if_neg (by simp [h.no]), if_neg h.tm, if_neg (by simp [h.ord]), if_neg (by simp [h.key1]), if_neg (by simp [h.key2]), if_pos h3]
structure PW4 (b : Board4) (pre : List Post6) (x : Post6) : Prop extends PW3 pre x where
  may : mayB b x.paper x.person x.tm = true
theorem PW4.astray (h : PW4 b pre x) (h3 : astray pre x = true) : postF b pre x = 8 := by rw [postF, if_neg (by simp [h.no]), if_neg h.tm, if_neg (by simp [h.ord]), if_neg (by simp [h.key1]), if_neg (by simp [h.key2]), if_neg (by simp [h.may]), if_pos h3]
structure PW5 (b : Board4) (pre : List Post6) (x : Post6) : Prop extends PW4 b pre x where
  ast : Go.Proofs.YtllkemadaemjeaaGreatDoor.astray pre x = false
theorem PW5.none (h : PW5 b pre x) (h3 : x.words.size = 0) : postF b pre x = 3 := by rw [postF, if_neg (by simp [h.no]), if_neg h.tm, if_neg (by simp [h.ord]), if_neg (by simp [h.key1]), if_neg (by simp [h.key2]), if_neg (by simp [h.may]), if_neg (by simp [h.ast]), if_pos h3]
theorem PW5.form (h : PW5 b pre x) (h3 : ¬ x.words.size = 0) (h4 : isTextB x.words = false) : postF b pre x = 3 := by rw [postF, if_neg (by simp [h.no]), if_neg h.tm, if_neg (by simp [h.ord]), if_neg (by simp [h.key1]), if_neg (by simp [h.key2]), if_neg (by simp [h.may]), if_neg (by simp [h.ast]), if_neg h3, if_pos h4]
theorem PW5.large (h : PW5 b pre x) (h3 : ¬ x.words.size = 0) (h4 : isTextB x.words = true) (h5 : 4000 < x.words.size) : postF b pre x = 2 := by rw [postF, if_neg (by simp [h.no]), if_neg h.tm, if_neg (by simp [h.ord]), if_neg (by simp [h.key1]), if_neg (by simp [h.key2]), if_neg (by simp [h.may]), if_neg (by simp [h.ast]), if_neg h3, if_neg (by simp [h4]), if_pos h5]
theorem PW5.ok (h : PW5 b pre x) (h3 : ¬ x.words.size = 0) (h4 : isTextB x.words = true) (h5 : ¬ 4000 < x.words.size) : postF b pre x = 0 := by rw [postF, if_neg (by simp [h.no]), if_neg h.tm, if_neg (by simp [h.ord]), if_neg (by simp [h.key1]), if_neg (by simp [h.key2]), if_neg (by simp [h.may]), if_neg (by simp [h.ast]), if_neg h3, if_neg (by simp [h4]), if_neg h5]
theorem astray_zero (h : x.ans = 0) : astray pre x = false := by rw [astray, if_pos h]
theorem astray_out (h : ¬ x.ans = 0) (h2 : x.ans < 1 ∨ (pre.length : Int) < x.ans) : astray pre x = true := by rw [astray, if_neg h, if_pos h2]
theorem astray_at {j : Nat} {y : Post6} (h : x.ans = (j : Int) + 1) (hy : pre[j]? = some y) : astray pre x = decide (y.paper ≠ x.paper) := by
  have hj := (List.getElem?_eq_some_iff.1 hy).1
  rw [astray, if_neg (by omega), if_neg (by omega), show x.ans.toNat - 1 = j by omega, hy]
end
theorem earlierP_last {pre : List Post6} {x y : Post6} {k : Nat} (hl : pre.length = k + 1) (hy : pre[k]? = some y) : earlierP pre.getLast? x = decide (x.tm < y.tm) := by
  have : pre.getLast? = some y := by
    rw [List.getLast?_eq_getElem?, hl]
    exact hy
  rw [this]; rfl
theorem postsF_board {b : Board4} {l : List Post6} (h : ¬ boardF b = 0) : postsF b l = boardF b := by rw [postsF, if_pos h]
theorem postsF_large {b : Board4} {l : List Post6} (h : boardF b = 0) (h2 : 2000 < l.length) : postsF b l = 2 := by rw [postsF, if_neg (by simp [h]), if_pos h2]
theorem postsF_some {b : Board4} {l : List Post6} (h : boardF b = 0) (h2 : ¬ 2000 < l.length) : postsF b l = postsG b [] l := by rw [postsF, if_neg (by simp [h]), if_neg h2]
theorem postsF_zero {b : Board4} {l : List Post6} (h : postsF b l = 0) : boardF b = 0 ∧ l.length ≤ 2000 ∧ postsG b [] l = 0 := by
  by_cases h1 : boardF b = 0
  · by_cases h2 : 2000 < l.length
    · rw [postsF_large h1 h2] at h; omega
    · exact ⟨h1, by omega, by rw [← postsF_some h1 h2]; exact h⟩
  · rw [postsF_board h1] at h; exact absurd h h1
end Go.Proofs.YtllkemadaemjeaaGreatDoor
