/- Keys that must rise: RisingFault and rising. -/
import Derived.Test.YtbpbhpmkganefaaGreatDoorGe
import Derived.Test.YtbpbhpmkganefaaGreatDoorKb
import Derived.Test.YtbpbhpmkganefaaGreatDoorZd
import Derived.Test.YtbpbhpmkganefaaGreatDoorZi
import Derived.Test.YtbpbhpmkganefaaGreatDoorRa
namespace Go.Proofs.YtbpbhpmkganefaaGreatDoor
open Go.RowKit

/-- The error of keys that must rise, behind p. -/
noncomputable def riseF (p : Option ByteArray) : List ByteArray → Int
  | [] => 0
  | s :: l => if isKeyB s = false then 5 else if (match p with | none => false | some q => leB s q) = true then 7 else riseF (some s) l
theorem riseF_cons (p : Option ByteArray) (s : ByteArray) (l : List ByteArray) : riseF p (s :: l) = if isKeyB s = false then 5 else if (match p with | none => false | some q => leB s q) = true then 7 else riseF (some s) l := rfl
/-- The walk over keys up to place k has found nothing. -/
def RiseAt (ss : List ByteArray) (k : Nat) : Prop := riseF none ss = riseF (ss.take k).getLast? (ss.drop k)

theorem RiseAt.name {ss : List ByteArray} {k : Nat} {y : ByteArray} (h : RiseAt ss k) (hy : ss[k]? = some y) (hn : isKeyB y = false) : riseF none ss = 5 := by
  rw [h, drop_at hy, riseF_cons, if_pos hn]
theorem RiseAt.first {ss : List ByteArray} {y : ByteArray} (h : RiseAt ss 0) (hy : ss[0]? = some y) (hn : isKeyB y = true) : RiseAt ss 1 := by
  unfold RiseAt at *
  rw [h, drop_at hy, last_take hy, riseF_cons, if_neg (by simp [hn])]
  simp
theorem RiseAt.order {ss : List ByteArray} {k : Nat} {x y : ByteArray} (h : RiseAt ss (k + 1)) (hx : ss[k]? = some x) (hy : ss[k + 1]? = some y) (hn : isKeyB y = true) (hl : leB y x = true) : riseF none ss = 7 := by
  rw [h, drop_at hy, last_take hx, riseF_cons, if_neg (by simp [hn])]
  exact if_pos hl
theorem RiseAt.next {ss : List ByteArray} {k : Nat} {x y : ByteArray} (h : RiseAt ss (k + 1)) (hx : ss[k]? = some x) (hy : ss[k + 1]? = some y) (hn : isKeyB y = true) (hl : leB y x = false) : RiseAt ss (k + 1 + 1) := by
  unfold RiseAt at *
  rw [h, drop_at hy, last_take hx, last_take hy, riseF_cons, if_neg (by simp [hn])]
  exact if_neg (by simp [hl])


end Go.Proofs.YtbpbhpmkganefaaGreatDoor

/- TalkRules and Ids10. -/
namespace Go.Proofs.YtbpbhpmkganefaaGreatDoor
open Go.RowKit

/-- Rules of talks. -/
structure TR where
  sp : Int
  fr : Int
  til : Int
  few : Int
  re : Bool
abbrev TR.val (r : TR) : Value := .agg #[.int .i64 r.sp, .int .i64 r.fr, .int .i64 r.til, .int .i64 r.few, .bool r.re]
def IsTalk (v : Value) (_ : World) : Prop := ∃ r : TR, v = r.val


end Go.Proofs.YtbpbhpmkganefaaGreatDoor

/- Which papers are talked about, and why. No program in sight. -/
namespace Go.Proofs.YtbpbhpmkganefaaGreatDoor
open Go.RowKit

noncomputable def namesF (ss : List ByteArray) : Int := if 400 < ss.length then 2 else riseF none ss
def talkF (r : TR) : Int := if r.sp < 0 ∨ 10 < r.sp then 1 else if r.fr < 0 ∨ r.til < r.fr then 1 else if 101 < r.til then 1 else if r.few < 0 ∨ 11 < r.few then 1 else 0
theorem talkF_bounds {r : TR} (h : talkF r = 0) : 0 ≤ r.sp ∧ r.sp ≤ 10 ∧ 0 ≤ r.fr ∧ r.fr ≤ r.til ∧ r.til ≤ 101 ∧ 0 ≤ r.few ∧ r.few ≤ 11 := by
  unfold talkF at h
  split at h
  · omega
  · split at h
    · omega
    · split at h
      · omega
      · split at h
        · omega
        · omega

def isSpread (r : TR) (s : List Int) : Bool := decide (0 < r.sp) && decide (0 < s.length) && decide (r.sp ≤ s.getD (s.length - 1) 0 - s.getD 0 0)
def isMiddle (r : TR) (s : List Int) : Bool := decide (0 < s.length) && decide (r.fr * s.length ≤ 10 * sumI s) && decide (10 * sumI s < r.til * s.length)
def isFew (r : TR) (s : List Int) : Bool := decide ((s.length : Int) < r.few)
def isReply (r : TR) (p : ByteArray) (rep : List ByteArray) : Bool := r.re && memB p rep
def whyB (a b c d : Bool) : List Int := (if a = true then [1] else []) ++ (if b = true then [2] else []) ++ (if c = true then [3] else []) ++ if d = true then [4] else []
def whyOf (r : TR) (s : List Int) (p : ByteArray) (rep : List ByteArray) : List Int := whyB (isSpread r s) (isMiddle r s) (isFew r s) (isReply r p rep)
def talkOf (r : TR) (f : ByteArray → List Int) (rep : List ByteArray) (p : ByteArray) : Option (ByteArray × List Int) := if whyOf r (f p) p rep = [] then none else some (p, whyOf r (f p) p rep)
def talksOf (r : TR) (f : ByteArray → List Int) (rep ps : List ByteArray) : List (ByteArray × List Int) := ps.filterMap (talkOf r f rep)
section
variable {r : TR} {f : ByteArray → List Int} {rep ps : List ByteArray} {p : ByteArray} {k : Nat}
theorem talksOf_some (h : ps.take (k + 1) = ps.take k ++ [p]) (hw : whyOf r (f p) p rep ≠ []) : talksOf r f rep (ps.take (k + 1)) = talksOf r f rep (ps.take k) ++ [(p, whyOf r (f p) p rep)] := by
  simp only [talksOf, h, List.filterMap_append, List.filterMap_cons, List.filterMap_nil, talkOf, if_neg hw]
theorem talksOf_none (h : ps.take (k + 1) = ps.take k ++ [p]) (hw : whyOf r (f p) p rep = []) : talksOf r f rep (ps.take (k + 1)) = talksOf r f rep (ps.take k) := by
  simp only [talksOf, h, List.filterMap_append, List.filterMap_cons, List.filterMap_nil, talkOf, if_pos hw, List.append_nil]
theorem talksOf_len (ps : List ByteArray) : (talksOf r f rep ps).length ≤ ps.length := List.length_filterMap_le _ _
theorem whyB_len (a b c d : Bool) : (whyB a b c d).length ≤ 4 := by cases a <;> cases b <;> cases c <;> cases d <;> decide
end
/-- Go's products in bounds. -/
theorem prod_bd {a : Int} {n : Nat} (h1 : 0 ≤ a) (h2 : a ≤ 1000) (h3 : n ≤ 3000) : 0 ≤ a * n ∧ a * n ≤ 3000000 := by
  have h4 := Int.mul_nonneg h1 (show 0 ≤ (n : Int) by omega)
  have h5 := Int.mul_le_mul h2 (show (n : Int) ≤ 3000 by omega) (by omega) (by omega)
  omega

/-- A paper that is called, with its reasons: how it lies in memory. -/
def RCalled : Rel (ByteArray × List Int) := fun F w vs x => ∃ (a : Option Addr) (n c : Nat), vs = [.string x.1, .slice a n c] ∧ x.1.size ≤ 1000000 ∧ n ≤ 4 ∧ Sl RInt 1 F w a n x.2
theorem RCalled.ok : RCalled.Ok :=
  ⟨fun k ⟨a, n, c, h1, h2, h3, h4⟩ => ⟨a, n, c, h1, h2, h3, h4.keep RInt.ok k⟩, fun hg ⟨a, n, c, h1, h2, h3, h4⟩ => ⟨a, n, c, h1, h2, h3, h4.mono RInt.ok hg⟩, fun ⟨a, n, c, h1, h2, h3, h4⟩ => ⟨a, n, c, h1, h2, h3, h4.live RInt.ok (by decide)⟩⟩
/-- The reasons so far. -/
def WhyAt (wo : World) (ws : List Int) (v : Value) (wx : World) : Prop := Acc RInt 1 3 (fun _ => False) wo.heap.size wx v ws ∧ All wo wx
end Go.Proofs.YtbpbhpmkganefaaGreatDoor

/- Equal of ints, the law's comparison of papers that are called, EqualFunc: true of what reads alike. -/
namespace Go.Proofs.YtbpbhpmkganefaaGreatDoor
open Go.RowKit

set_option maxHeartbeats 800000 in
theorem equalI_same (a1 : Option Addr) (l1 c1 : Nat) (a2 : Option Addr) (l2 c2 : Nat) (cs : List Int) (w : World) (h1 : Sl RInt 1 (fun _ => True) w a1 l1 cs) (h2 : Sl RInt 1 (fun _ => True) w a2 l2 cs) (hl : l1 ≤ 1000000) :
    Calls Tryz.prog 50 #[.slice a1 l1 c1, .slice a2 l2 c2] w fun e w' => e = .returned (.bool true) ∧ All w w' := by
  have e1 := h1.len
  have e2 := h2.len
  have e3 : l2 = l1 := by omega
  subst e3
  clear e1 e2
  go_enter Tryz.func50, Tryz.ntmps50
  go_wp2_with fail
  go_loopw [13] (fun i wr => ∃ k : Nat, k ≤ l2 ∧ i = .int .i64 k ∧ All w wr) (fun i _ => l2 - (intOf i).toNat)
  case atStart => exact ⟨0, Nat.zero_le _, rfl, Kept.refl _ _⟩
  case round =>
    obtain ⟨k, hk, rfl, hall⟩ := hrel
    by_cases hlt : k < l2
    · obtain ⟨b1, o1, ha1, -, hc1⟩ := (h1.keep RInt.ok hall).ints (by omega)
      obtain ⟨b2, o2, ha2, -, hc2⟩ := (h2.keep RInt.ok hall).ints (by omega)
      have p0 := hc1 k hlt
      have q0 := hc2 k hlt
      generalize cs.getD k 0 = y at p0 q0
      subst ha1
      subst ha2
      clear h1 h2 hc1 hc2
      go_wp2_with fail
      go_quiet (fail)
      go_wp2_with fail
      go_roundw
      case rel => exact ⟨k + 1, by omega, by go_num, hall.then_drewN _⟩
      case measure => simp [intOf]; omega
    · have hd : decide ((k : Int) < (l2 : Int)) = false := by simp; omega
      go_wp2_with fail
      go_ret
      exact ⟨rfl, hall⟩


theorem Sl.atCalled {F : Nat → Prop} {w : World} {a : Option Addr} {len : Nat} {xs : List (ByteArray × List Int)} (h : Sl RCalled 2 F w a len xs) {k : Nat} (hk : k < len) :
    ∃ b off x aw nw cw, a = some ⟨b, off, none⟩ ∧ w.cell? ⟨b, off + k * 2, none⟩ = some (.string x.1) ∧ w.cell? ⟨b, off + k * 2 + 1, none⟩ = some (.slice aw nw cw) ∧ nw ≤ 4 ∧ Sl RInt 1 F w aw nw x.2 ∧ xs[k]? = some x := by
  obtain ⟨b, off, vs, x, ha, hF, h1, h2, ⟨aw, nw, cw, rfl, h3, h4, h5⟩, h6, -, -⟩ := h.at hk
  exact ⟨b, off, x, aw, nw, cw, ha, by simpa using h2 0 (by simp), by simpa using h2 1 (by simp), h4, h5, h6⟩

end Go.Proofs.YtbpbhpmkganefaaGreatDoor
