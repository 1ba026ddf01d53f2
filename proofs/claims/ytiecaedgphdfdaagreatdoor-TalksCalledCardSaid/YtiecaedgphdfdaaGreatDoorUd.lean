/- Which papers are talked about, and why. No program in sight. -/
import Derived.Test.YtiecaedgphdfdaaGreatDoorRa
import Derived.Test.YtiecaedgphdfdaaGreatDoorUa
import Derived.Test.YtiecaedgphdfdaaGreatDoorUb
namespace Go.Proofs.YtiecaedgphdfdaaGreatDoor
open Go.RowKit

noncomputable def namesF (ss : List ByteArray) : Int := if 400 < ss.length then 2 else riseF none ss
def talkF (r : TR) : Int := if r.sp < 0 ∨ 10 < r.sp then 1 else if r.fr < 0 ∨ r.til < r.fr then 1 else if 101 < r.til then 1 else if r.few < 0 ∨ 11 < r.few then 1 else 0
theorem talkF_bounds {r : TR} (h : talkF r = 0) : 0 ≤ r.sp ∧ r.sp ≤ 10 ∧ 0 ≤ r.fr ∧ r.fr ≤ r.til ∧ r.til ≤ 101 ∧ 0 ≤ r.few ∧ r.few ≤ 11 := by
  unfold talkF at h
  split at h
  · omega
  · split at h
    · omega
    · split at h
      · omega
      · split at h
        · omega
        · omega

def isSpread (r : TR) (s : List Int) : Bool := decide (0 < r.sp) && decide (0 < s.length) && decide (r.sp ≤ s.getD (s.length - 1) 0 - s.getD 0 0)
def isMiddle (r : TR) (s : List Int) : Bool := decide (0 < s.length) && decide (r.fr * s.length ≤ 10 * sumI s) && decide (10 * sumI s < r.til * s.length)
def isFew (r : TR) (s : List Int) : Bool := decide ((s.length : Int) < r.few)
def isReply (r : TR) (p : ByteArray) (rep : List ByteArray) : Bool := r.re && memB p rep
def whyB (a b c d : Bool) : List Int := (if a = true then [1] else []) ++ (if b = true then [2] else []) ++ (if c = true then [3] else []) ++ if d = true then [4] else []
def whyOf (r : TR) (s : List Int) (p : ByteArray) (rep : List ByteArray) : List Int := whyB (isSpread r s) (isMiddle r s) (isFew r s) (isReply r p rep)
def talkOf (r : TR) (f : ByteArray → List Int) (rep : List ByteArray) (p : ByteArray) : Option (ByteArray × List Int) := if whyOf r (f p) p rep = [] then none else some (p, whyOf r (f p) p rep)
def talksOf (r : TR) (f : ByteArray → List Int) (rep ps : List ByteArray) : List (ByteArray × List Int) := ps.filterMap (talkOf r f rep)
section
variable {r : TR} {f : ByteArray → List Int} {rep ps : List ByteArray} {p : ByteArray} {k : Nat}
theorem talksOf_some (h : ps.take (k + 1) = ps.take k ++ [p]) (hw : whyOf r (f p) p rep ≠ []) : talksOf r f rep (ps.take (k + 1)) = talksOf r f rep (ps.take k) ++ [(p, whyOf r (f p) p rep)] := by
  simp only [talksOf, h, List.filterMap_append, List.filterMap_cons, List.filterMap_nil, talkOf, if_neg hw]
theorem talksOf_none (h : ps.take (k + 1) = ps.take k ++ [p]) (hw : whyOf r (f p) p rep = []) : talksOf r f rep (ps.take (k + 1)) = talksOf r f rep (ps.take k) := by
  simp only [talksOf, h, List.filterMap_append, List.filterMap_cons, List.filterMap_nil, talkOf, if_pos hw, List.append_nil]
theorem talksOf_len (ps : List ByteArray) : (talksOf r f rep ps).length ≤ ps.length := List.length_filterMap_le _ _
theorem whyB_len (a b c d : Bool) : (whyB a b c d).length ≤ 4 := by cases a <;> cases b <;> cases c <;> cases d <;> decide
end
/-- Go's products in bounds. -/
theorem prod_bd {a : Int} {n : Nat} (h1 : 0 ≤ a) (h2 : a ≤ 1000) (h3 : n ≤ 3000) : 0 ≤ a * n ∧ a * n ≤ 3000000 := by
  have h4 := Int.mul_nonneg h1 (show 0 ≤ (n : Int) by omega)
  have h5 := Int.mul_le_mul h2 (show (n : Int) ≤ 3000 by omega) (by omega) (by omega)
  omega

/-- A paper that is called, with its reasons: how it lies in memory. -/
def RCalled : Rel (ByteArray × List Int) := fun F w vs x => ∃ (a : Option Addr) (n c : Nat), vs = [.string x.1, .slice a n c] ∧ x.1.size ≤ 1000000 ∧ n ≤ 4 ∧ Sl RInt 1 F w a n x.2
theorem RCalled.ok : RCalled.Ok :=
  ⟨fun k ⟨a, n, c, h1, h2, h3, h4⟩ => ⟨a, n, c, h1, h2, h3, h4.keep RInt.ok k⟩, fun hg ⟨a, n, c, h1, h2, h3, h4⟩ => ⟨a, n, c, h1, h2, h3, h4.mono RInt.ok hg⟩, fun ⟨a, n, c, h1, h2, h3, h4⟩ => ⟨a, n, c, h1, h2, h3, h4.live RInt.ok (by decide)⟩⟩
/-- The reasons so far. -/
def WhyAt (wo : World) (ws : List Int) (v : Value) (wx : World) : Prop := Acc RInt 1 3 (fun _ => False) wo.heap.size wx v ws ∧ All wo wx
end Go.Proofs.YtiecaedgphdfdaaGreatDoor
