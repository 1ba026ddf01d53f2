/- Meetings: who leaves for a paper, orders of papers, moves and steps. No program in sight. -/
import Derived.Test.YthhmgblcccbdaaaGreatDoorBa
import Derived.Test.YthhmgblcccbdaaaGreatDoorKc
import Derived.Lib.ValidU
namespace Go.Proofs.YthhmgblcccbdaaaGreatDoor
open Go.RowKit

/-- Who leaves for a paper. -/
def leav (ps : List Pair2) (p : ByteArray) : List ByteArray := (ps.filter fun q => decide (q.paper = p)).map (·.person)
theorem leav_snoc (ps : List Pair2) (q : Pair2) (p : ByteArray) : leav (ps ++ [q]) p = if q.paper = p then leav ps p ++ [q.person] else leav ps p := by
  by_cases h : q.paper = p <;> simp [leav, h]
theorem leav_len (ps : List Pair2) (p : ByteArray) : (leav ps p).length ≤ ps.length := by
  simp only [leav, List.length_map]
  exact List.length_filter_le _ _
theorem leav_size {ps : List Pair2} {p s : ByteArray} (h : s ∈ leav ps p) : s.size ≤ 1000000 := by
  obtain ⟨q, -, rfl⟩ := List.mem_map.1 h
  exact q.h2
/-- Strings that rise. -/
def RisesB (ss : List ByteArray) : Prop := ss.Pairwise fun x y => Op.bytesLess x.toList y.toList = true
theorem leav_rises {ps : List Pair2} (h : ps.Pairwise ltPP) (p : ByteArray) : RisesB (leav ps p) := by
  unfold RisesB leav
  rw [List.pairwise_map]
  have h1 := h.filter (fun q => decide (q.paper = p))
  refine h1.imp_of_mem fun {x y} hx hy hxy => ?_
  have ex : x.paper = p := by simpa using (List.mem_filter.1 hx).2
  have ey : y.paper = p := by simpa using (List.mem_filter.1 hy).2
  unfold ltPP cmpP at hxy
  rw [ex, ey, if_neg (by simp [cmp_zero])] at hxy
  rw [cmp_neg, ← tl_data, ← tl_data] at hxy
  exact hxy
/-- Those of a list that are not in another one. -/
def minusB (a b : List ByteArray) : List ByteArray := a.filter fun s => !memB s b
theorem minusB_snoc (a b : List ByteArray) (s : ByteArray) : minusB (a ++ [s]) b = if memB s b = true then minusB a b else minusB a b ++ [s] := by
  cases h : memB s b <;> simp [minusB, h]
theorem minusB_len (a b : List ByteArray) : (minusB a b).length ≤ a.length := List.length_filter_le _ _

/-- A paper of a meeting, who leaves and who comes in. -/
structure Step3 where
  paper : ByteArray
  leave : List ByteArray
  enter : List ByteArray
/-- The steps, where those of away are outside. -/
def stepsG (ps : List Pair2) (away : List ByteArray) : List ByteArray → List Step3
  | [] => []
  | p :: l => ⟨p, minusB (leav ps p) away, minusB away (leav ps p)⟩ :: stepsG ps (leav ps p) l
/-- Who is outside behind an order. -/
def awayG (ps : List Pair2) (away : List ByteArray) : List ByteArray → List ByteArray
  | [] => away
  | p :: l => awayG ps (leav ps p) l
theorem stepsG_snoc (ps : List Pair2) (p : ByteArray) : ∀ (l away : List ByteArray), stepsG ps away (l ++ [p]) = stepsG ps away l ++ [⟨p, minusB (leav ps p) (awayG ps away l), minusB (awayG ps away l) (leav ps p)⟩]
  | [], _ => rfl
  | q :: l, away => by
    show Step3.mk _ _ _ :: stepsG ps (leav ps q) (l ++ [p]) = _
    rw [stepsG_snoc ps p l]
    rfl
theorem awayG_snoc (ps : List Pair2) (p : ByteArray) : ∀ (l away : List ByteArray), awayG ps away (l ++ [p]) = leav ps p
  | [], _ => rfl
  | q :: l, away => by
    show awayG ps (leav ps q) (l ++ [p]) = _
    exact awayG_snoc ps p l _
theorem awayG_last (ps : List Pair2) : ∀ (l away : List ByteArray), awayG ps away l = match l.getLast? with | none => away | some p => leav ps p
  | [], _ => rfl
  | [p], _ => rfl
  | p :: q :: l, away => by
    show awayG ps (leav ps p) (q :: l) = _
    rw [awayG_last ps (q :: l)]
    simp [List.getLast?_cons]
/-- How many go and come, in a list of steps. -/
def goneN (l : List Step3) : Nat := (l.map fun s => s.leave.length + s.enter.length).sum
theorem goneN_snoc (l : List Step3) (s : Step3) : goneN (l ++ [s]) = goneN l + (s.leave.length + s.enter.length) := by simp [goneN]
/-- How often somebody leaves or comes in. -/
def movesN (ps : List Pair2) (l : List ByteArray) : Nat := goneN (stepsG ps [] l) + (awayG ps [] l).length

/-- The error of an order of papers, behind those that were seen. -/
noncomputable def orderG (seen : List ByteArray) : List ByteArray → Int
  | [] => 0
  | p :: l => if isKeyB p = false then 5 else if memB p seen = true then 6 else orderG (seen ++ [p]) l
noncomputable def orderF (l : List ByteArray) : Int := if 400 < l.length then 2 else orderG [] l
theorem orderG_cons (seen : List ByteArray) (p : ByteArray) (l : List ByteArray) : orderG seen (p :: l) = if isKeyB p = false then 5 else if memB p seen = true then 6 else orderG (seen ++ [p]) l := rfl
/-- The walk over an order up to place k has found nothing. -/
def OrderAt (ss : List ByteArray) (k : Nat) : Prop := orderG [] ss = orderG (ss.take k) (ss.drop k)
section
variable {ss : List ByteArray} {k : Nat} {y : ByteArray}
theorem OrderAt.zero (ss : List ByteArray) : OrderAt ss 0 := by simp [OrderAt]
theorem OrderAt.name (h : OrderAt ss k) (hy : ss[k]? = some y) (h1 : isKeyB y = false) : orderG [] ss = 5 := by
  rw [h, drop_at hy, orderG_cons, if_pos h1]
theorem OrderAt.twice (h : OrderAt ss k) (hy : ss[k]? = some y) (h1 : isKeyB y = true) (h2 : memB y (ss.take k) = true) : orderG [] ss = 6 := by
  rw [h, drop_at hy, orderG_cons, if_neg (by simp [h1]), if_pos h2]
theorem OrderAt.next (h : OrderAt ss k) (hy : ss[k]? = some y) (h1 : isKeyB y = true) (h2 : memB y (ss.take k) = false) : OrderAt ss (k + 1) := by
  have e : ss.take (k + 1) = ss.take k ++ [y] := by rw [List.take_add_one, hy]; rfl
  unfold OrderAt at *
  rw [h, drop_at hy, orderG_cons, if_neg (by simp [h1]), if_neg (by simp [h2]), e]
theorem OrderAt.ok (h : OrderAt ss k) (hk : ss.length ≤ k) : orderG [] ss = 0 := by
  rw [h, List.drop_of_length_le hk]; rfl
end
end Go.Proofs.YthhmgblcccbdaaaGreatDoor

/- Posts: how they lie in memory; what CheckPosts finds. No program in sight. -/
namespace Go.Proofs.YthhmgblcccbdaaaGreatDoor
open Go.RowKit

/-- No byte up to place k is barred in a text. -/
def textOk (s : ByteArray) (k : Nat) : Prop := ∀ (i : Nat) (h : i < s.size), i < k → ¬ (((s[i].toNat : Int) < 32 ∧ (s[i].toNat : Int) ≠ 10) ∨ (s[i].toNat : Int) = 127)
theorem textOk_succ {s : ByteArray} {k : Nat} (h : textOk s k) (hk : k < s.size) (hb : ¬ (((s[k].toNat : Int) < 32 ∧ (s[k].toNat : Int) ≠ 10) ∨ (s[k].toNat : Int) = 127)) : textOk s (k + 1) := by
  intro i hi hik
  by_cases e : i = k
  · subst e; exact hb
  · exact h i hi (by omega)
open Classical in
noncomputable def isTextB (s : ByteArray) : Bool := decide (textOk s s.size) && Lib.validD s.data.toList && (decide (s.size = 0) || decide (s.data.toList.getLast? = some 10))

/-- A post. -/
structure Post6 where
  no : Int
  tm : Int
  paper : ByteArray
  person : ByteArray
  ans : Int
  words : ByteArray
def RPost : Rel Post6 := fun _ _ vs x => vs = [.int .i64 x.no, .int .i64 x.tm, .string x.paper, .string x.person, .int .i64 x.ans, .string x.words] ∧ x.paper.size ≤ 1000000 ∧ x.person.size ≤ 1000000 ∧ x.words.size ≤ 1000000
theorem RPost.ok : RPost.Ok := ⟨fun _ h => h, fun _ h => h, fun h => h⟩
theorem Sl.atPost {F : Nat → Prop} {w : World} {a : Option Addr} {len : Nat} {xs : List Post6} (h : Sl RPost 6 F w a len xs) {k : Nat} (hk : k < len) :
    ∃ b off x, a = some ⟨b, off, none⟩ ∧ F b ∧ w.cell? ⟨b, off + k * 6, none⟩ = some (.int .i64 x.no) ∧ w.cell? ⟨b, off + k * 6 + 1, none⟩ = some (.int .i64 x.tm) ∧ w.cell? ⟨b, off + k * 6 + 2, none⟩ = some (.string x.paper) ∧ w.cell? ⟨b, off + k * 6 + 3, none⟩ = some (.string x.person) ∧ w.cell? ⟨b, off + k * 6 + 4, none⟩ = some (.int .i64 x.ans) ∧ w.cell? ⟨b, off + k * 6 + 5, none⟩ = some (.string x.words) ∧
      (x.paper.size ≤ 1000000 ∧ x.person.size ≤ 1000000 ∧ x.words.size ≤ 1000000) ∧ xs[k]? = some x ∧ xs.take (k + 1) = xs.take k ++ [x] := by
  obtain ⟨b, off, vs, x, ha, hF, h1, h2, ⟨rfl, hsm⟩, h4, h5, h6⟩ := h.at hk
  exact ⟨b, off, x, ha, hF, h2 0 (by simp), h2 1 (by simp), h2 2 (by simp), h2 3 (by simp), h2 4 (by simp), h2 5 (by simp), hsm, h4, h6⟩
def earlierP (p : Option Post6) (t : Post6) : Bool := match p with | none => false | some q => decide (t.tm < q.tm)
/-- Whether a post answers one that there is not, or one of another paper. -/
def astray (pre : List Post6) (p : Post6) : Bool :=
  if p.ans = 0 then false else if p.ans < 1 ∨ (pre.length : Int) < p.ans then true else match pre[p.ans.toNat - 1]? with | none => true | some q => decide (q.paper ≠ p.paper)
noncomputable def postF (b : Board4) (pre : List Post6) (p : Post6) : Int :=
  if p.no ≠ (pre.length : Int) + 1 then 1 else if p.tm < 0 ∨ 5761440 ≤ p.tm then 1 else if earlierP pre.getLast? p = true then 7 else if isKeyB p.paper = false then 5 else if isKeyB p.person = false then 5 else
  if mayB b p.paper p.person p.tm = false then 16 else if astray pre p = true then 8 else if p.words.size = 0 then 3 else if isTextB p.words = false then 3 else if 4000 < p.words.size then 2 else 0
noncomputable def postsG (b : Board4) (pre : List Post6) : List Post6 → Int
  | [] => 0
  | x :: l => if postF b pre x ≠ 0 then postF b pre x else postsG b (pre ++ [x]) l
noncomputable def postsF (b : Board4) (l : List Post6) : Int := if boardF b ≠ 0 then boardF b else if 2000 < l.length then 2 else postsG b [] l
theorem postsG_cons (b : Board4) (p : List Post6) (x : Post6) (l : List Post6) : postsG b p (x :: l) = if postF b p x ≠ 0 then postF b p x else postsG b (p ++ [x]) l := rfl
/-- The walk over posts up to place k has found nothing. -/
def PostsAt (b : Board4) (xs : List Post6) (k : Nat) : Prop := postsG b [] xs = postsG b (xs.take k) (xs.drop k)
section
variable {b : Board4} {xs : List Post6} {k : Nat} {x : Post6}
theorem PostsAt.zero (b : Board4) (xs : List Post6) : PostsAt b xs 0 := by simp [PostsAt]
theorem PostsAt.bad {e : Int} (h : PostsAt b xs k) (hx : xs[k]? = some x) (hf : postF b (xs.take k) x = e) (he : e ≠ 0) : postsG b [] xs = e := by
  rw [h, drop_at hx, postsG_cons, hf, if_pos he]
theorem PostsAt.next (h : PostsAt b xs k) (hx : xs[k]? = some x) (hf : postF b (xs.take k) x = 0) : PostsAt b xs (k + 1) := by
  have e : xs.take (k + 1) = xs.take k ++ [x] := by rw [List.take_add_one, hx]; rfl
  unfold PostsAt at *
  rw [h, drop_at hx, postsG_cons, hf, if_neg (by simp), e]
theorem PostsAt.ok (h : PostsAt b xs k) (hk : xs.length ≤ k) : postsG b [] xs = 0 := by
  rw [h, List.drop_of_length_le hk]; rfl
end
end Go.Proofs.YthhmgblcccbdaaaGreatDoor
