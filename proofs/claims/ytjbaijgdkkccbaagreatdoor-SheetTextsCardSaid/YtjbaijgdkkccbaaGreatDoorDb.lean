/- Meetings: who leaves for a paper, orders of papers, moves and steps. No program in sight. -/
import Derived.Test.YtjbaijgdkkccbaaGreatDoorBa
import Derived.Test.YtjbaijgdkkccbaaGreatDoorKc
import Derived.Lib.ValidU
namespace Go.Proofs.YtjbaijgdkkccbaaGreatDoor
open Go.RowKit

/-- A paper of a meeting, who leaves and who comes in. -/
structure Step3 where
  paper : ByteArray
  leave : List ByteArray
  enter : List ByteArray
/-- The error of an order of papers, behind those that were seen. -/
noncomputable def orderG (seen : List ByteArray) : List ByteArray → Int
  | [] => 0
  | p :: l => if isKeyB p = false then 5 else if memB p seen = true then 6 else orderG (seen ++ [p]) l
theorem orderG_cons (seen : List ByteArray) (p : ByteArray) (l : List ByteArray) : orderG seen (p :: l) = if isKeyB p = false then 5 else if memB p seen = true then 6 else orderG (seen ++ [p]) l := rfl
/-- The walk over an order up to place k has found nothing. -/
def OrderAt (ss : List ByteArray) (k : Nat) : Prop := orderG [] ss = orderG (ss.take k) (ss.drop k)
section
variable {ss : List ByteArray} {k : Nat} {y : ByteArray}
theorem OrderAt.zero (ss : List ByteArray) : OrderAt ss 0 := by simp [OrderAt]
theorem OrderAt.name (h : OrderAt ss k) (hy : ss[k]? = some y) (h1 : isKeyB y = false) : orderG [] ss = 5 := by
  rw [h, drop_at hy, orderG_cons, if_pos h1]
theorem OrderAt.twice (h : OrderAt ss k) (hy : ss[k]? = some y) (h1 : isKeyB y = true) (h2 : memB y (ss.take k) = true) : orderG [] ss = 6 := by
  rw [h, drop_at hy, orderG_cons, if_neg (by simp [h1]), if_pos h2]
theorem OrderAt.next (h : OrderAt ss k) (hy : ss[k]? = some y) (h1 : isKeyB y = true) (h2 : memB y (ss.take k) = false) : OrderAt ss (k + 1) := by
  have e : ss.take (k + 1) = ss.take k ++ [y] := by rw [List.take_add_one, hy]; rfl
  unfold OrderAt at *
  rw [h, drop_at hy, orderG_cons, if_neg (by simp [h1]), if_neg (by simp [h2]), e]
theorem OrderAt.ok (h : OrderAt ss k) (hk : ss.length ≤ k) : orderG [] ss = 0 := by
  rw [h, List.drop_of_length_le hk]; rfl
end
end Go.Proofs.YtjbaijgdkkccbaaGreatDoor

/- Posts: how they lie in memory; what CheckPosts finds. No program in sight. -/
namespace Go.Proofs.YtjbaijgdkkccbaaGreatDoor
open Go.RowKit

/-- No byte up to place k is barred in a text. -/
def textOk (s : ByteArray) (k : Nat) : Prop := ∀ (i : Nat) (h : i < s.size), i < k → ¬ (((s[i].toNat : Int) < 32 ∧ (s[i].toNat : Int) ≠ 10) ∨ (s[i].toNat : Int) = 127)
open Classical in
noncomputable def isTextB (s : ByteArray) : Bool := decide (textOk s s.size) && Lib.validD s.data.toList && (decide (s.size = 0) || decide (s.data.toList.getLast? = some 10))

/-- A post. -/
structure Post6 where
  no : Int
  tm : Int
  paper : ByteArray
  person : ByteArray
  ans : Int
  words : ByteArray
def RPost : Rel Post6 := fun _ _ vs x => vs = [.int .i64 x.no, .int .i64 x.tm, .string x.paper, .string x.person, .int .i64 x.ans, .string x.words] ∧ x.paper.size ≤ 1000000 ∧ x.person.size ≤ 1000000 ∧ x.words.size ≤ 1000000
theorem RPost.ok : RPost.Ok := ⟨fun _ h => h, fun _ h => h, fun h => h⟩
def earlierP (p : Option Post6) (t : Post6) : Bool := match p with | none => false | some q => decide (t.tm < q.tm)
/-- Whether a post answers one that there is not, or one of another paper. -/
def astray (pre : List Post6) (p : Post6) : Bool :=
  if p.ans = 0 then false else if p.ans < 1 ∨ (pre.length : Int) < p.ans then true else match pre[p.ans.toNat - 1]? with | none => true | some q => decide (q.paper ≠ p.paper)
noncomputable def postF (b : Board4) (pre : List Post6) (p : Post6) : Int :=
  if p.no ≠ (pre.length : Int) + 1 then 1 else if p.tm < 0 ∨ 5761440 ≤ p.tm then 1 else if earlierP pre.getLast? p = true then 7 else if isKeyB p.paper = false then 5 else if isKeyB p.person = false then 5 else
  if mayB b p.paper p.person p.tm = false then 16 else if astray pre p = true then 8 else if p.words.size = 0 then 3 else if isTextB p.words = false then 3 else if 4000 < p.words.size then 2 else 0
noncomputable def postsG (b : Board4) (pre : List Post6) : List Post6 → Int
  | [] => 0
  | x :: l => if postF b pre x ≠ 0 then postF b pre x else postsG b (pre ++ [x]) l
theorem postsG_cons (b : Board4) (p : List Post6) (x : Post6) (l : List Post6) : postsG b p (x :: l) = if postF b p x ≠ 0 then postF b p x else postsG b (p ++ [x]) l := rfl
/-- The walk over posts up to place k has found nothing. -/
def PostsAt (b : Board4) (xs : List Post6) (k : Nat) : Prop := postsG b [] xs = postsG b (xs.take k) (xs.drop k)
section
variable {b : Board4} {xs : List Post6} {k : Nat} {x : Post6}
theorem PostsAt.zero (b : Board4) (xs : List Post6) : PostsAt b xs 0 := by simp [PostsAt]
theorem PostsAt.bad {e : Int} (h : PostsAt b xs k) (hx : xs[k]? = some x) (hf : postF b (xs.take k) x = e) (he : e ≠ 0) : postsG b [] xs = e := by
  rw [h, drop_at hx, postsG_cons, hf, if_pos he]
theorem PostsAt.next (h : PostsAt b xs k) (hx : xs[k]? = some x) (hf : postF b (xs.take k) x = 0) : PostsAt b xs (k + 1) := by
  have e : xs.take (k + 1) = xs.take k ++ [x] := by rw [List.take_add_one, hx]; rfl
  unfold PostsAt at *
  rw [h, drop_at hx, postsG_cons, hf, if_neg (by simp), e]
theorem PostsAt.ok (h : PostsAt b xs k) (hk : xs.length ≤ k) : postsG b [] xs = 0 := by
  rw [h, List.drop_of_length_le hk]; rfl
end
end Go.Proofs.YtjbaijgdkkccbaaGreatDoor
