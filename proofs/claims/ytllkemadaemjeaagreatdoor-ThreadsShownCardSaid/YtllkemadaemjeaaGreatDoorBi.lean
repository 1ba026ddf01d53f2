/- slices.Backward of turns: the iterator's contract; found from behind, in plain words. -/
import Derived.RangeFuncNested
import Derived.RangeFuncBound
import Derived.RangeFuncCalls
import Derived.RangeFuncLeaves
import Derived.Shelf.Abstract
import Derived.Shelf.RegionOpen
import Derived.WalkKit
import Derived.OwnWalkIn
import Derived.TacticsInMore
import Derived.LoopNIn
import Derived.LoopIn
import Derived.Test.YtllkemadaemjeaaGreatDoorBa
import Derived.Test.YtllkemadaemjeaaGreatDoorProg
namespace Go.Proofs.YtllkemadaemjeaaGreatDoor
open Go.RowKit Go.Shelf
attribute [local go_sem] Oper.semAt_some

/-- The turn at a place. -/
def turnAt (xs : List Turn3) (i : Nat) : Turn3 := xs.getD i ⟨0, ByteArray.empty, false⟩
/-- What the round after j others hands out. -/
def backAt (xs : List Turn3) (j : Nat) : Nat × Turn3 := (xs.length - 1 - j, turnAt xs (xs.length - 1 - j))
/-- What has come when k rounds are over. -/
def backTo (xs : List Turn3) (k : Nat) : List (Nat × Turn3) := (List.range k).map (backAt xs)
theorem backTo_succ (xs : List Turn3) (k : Nat) : backTo xs (k + 1) = backTo xs k ++ [backAt xs k] := by simp [backTo, List.range_succ]
theorem backTo_length (xs : List Turn3) (k : Nat) : (backTo xs k).length = k := by simp [backTo]
/-- Whether a turn is of a paper and not after a moment. -/
def hits (p : ByteArray) (n : Int) (t : Turn3) : Prop := t.paper = p ∧ t.tm ≤ n
/-- No turn of the last k hits. -/
theorem open_stay {xs : List Turn3} {p : ByteArray} {n : Int} : ∀ {k : Nat}, k ≤ xs.length → (∀ y ∈ backTo xs k, ¬ hits p n y.2) → openAt xs p n = openAt (xs.take (xs.length - k)) p n
  | 0, _, _ => by simp
  | k + 1, hk, h => by
    rw [backTo_succ] at h
    have h1 := open_stay (k := k) (by omega) (fun y hy => h y (List.mem_append_left _ hy))
    have h2 := h (backAt xs k) (List.mem_append_right _ (by simp))
    have hi : xs.length - 1 - k < xs.length := by omega
    have hx : xs[xs.length - 1 - k]? = some (turnAt xs (xs.length - 1 - k)) := by
      rw [turnAt, List.getD_eq_getElem?_getD, List.getElem?_eq_getElem hi]; rfl
    have h3 := openAt_back (p := p) (m := n) hx (by rw [show xs.length - 1 - k + 1 = xs.length - k by omega]; exact h1)
    rw [h3, if_neg (show ¬ ((turnAt xs (xs.length - 1 - k)).paper = p ∧ (turnAt xs (xs.length - 1 - k)).tm ≤ n) from h2), show xs.length - 1 - k = xs.length - (k + 1) by omega]
theorem open_hit {xs : List Turn3} {p : ByteArray} {n : Int} {k : Nat} (hk : k < xs.length) (h : ∀ y ∈ backTo xs k, ¬ hits p n y.2) (hh : hits p n (backAt xs k).2) : openAt xs p n = (backAt xs k).2.op := by
  have h1 := open_stay (by omega) h
  have hi : xs.length - 1 - k < xs.length := by omega
  have hx : xs[xs.length - 1 - k]? = some (turnAt xs (xs.length - 1 - k)) := by
    rw [turnAt, List.getD_eq_getElem?_getD, List.getElem?_eq_getElem hi]; rfl
  have h3 := openAt_back (p := p) (m := n) hx (by rw [show xs.length - 1 - k + 1 = xs.length - k by omega]; exact h1)
  rw [h3]
  exact if_pos hh
theorem open_none {xs : List Turn3} {p : ByteArray} {n : Int} (h : ∀ y ∈ backTo xs xs.length, ¬ hits p n y.2) : openAt xs p n = false := by
  rw [open_stay (Nat.le_refl _) h]
  simp [openAt]

/-- The two values of a round. -/
def encB (x : Nat × Turn3) : Array Value := #[.int .i64 (x.1 : Int), .agg #[.int .i64 x.2.tm, .string x.2.paper, .bool x.2.op]]

set_option maxRecDepth 100000 in
set_option maxHeartbeats 2000000 in
theorem back1_in (F : Fence) (n : Nat) (h8 : F.fn 243) (hro : F.round = none) (hn : 1 ≤ n) (l Bs n₀ b off cap : Nat) (xs : List Turn3) (len : Nat) (hl : xs.length = len) (hlz : len ≤ 1000000) (hb : b < n₀) (hBn : Bs < n₀) (J Jx : List (Nat × Turn3) → World → Prop)
    (hY : ∀ pre x W, J pre W → pre.length < len → YieldAt F (n - 1) Tryz.prog l (encB x) W fun e W' =>
      (e = .returned (.bool true) ∧ J (pre ++ [x]) W' ∧ Below n₀ W W') ∨ (e = .returned (.bool false) ∧ Jx (pre ++ [x]) W'))
    (W : World) (hBs : W.cell? ⟨Bs, 0, none⟩ = some (.slice (some ⟨b, off, none⟩) len cap))
    (hc : ∀ j, j < len → W.cell? ⟨b, off + j * 3, none⟩ = some (.int .i64 (turnAt xs j).tm) ∧ W.cell? ⟨b, off + j * 3 + 1, none⟩ = some (.string (turnAt xs j).paper) ∧ W.cell? ⟨b, off + j * 3 + 2, none⟩ = some (.bool (turnAt xs j).op)) (h0 : J [] W) :
    CallsIn F n Tryz.prog 243 #[.func (.yield l) #[] #[], .pointer (some ⟨Bs, 0, none⟩)] W fun e W' => (∃ v, e = .returned v) ∧
      ((∃ ys, ys = backTo xs len ∧ J ys W') ∨ (∃ pre, (∃ k, k < len ∧ pre = backTo xs (k + 1)) ∧ Jx pre W')) := by
  have HL := Lib.hid hl
  have HC := Lib.hid hc
  clear hc hl
  refine callsIn_of_wp Tryz.func243 rfl h8 ?_ hro
  simp only [Tryz.ntmps243, List.size_toArray, List.length_cons, List.length_nil, Nat.reduceAdd, Nat.reduceSub, Array.replicate_succ, Array.replicate_zero, List.push_toArray, List.append_toArray, List.nil_append, List.cons_append]
  have hw1 : IntKind.i64.wrap ((len : Int) - 1) = (len : Int) - 1 := IntWalk.i64_in _ (by omega)
  gi_wp2
  gi_loopw [3] (fun i wr => ∃ m : Nat, m ≤ len ∧ i = .int .i64 ((m : Int) - 1) ∧ J (backTo xs (len - m)) wr ∧ Below n₀ W wr) (fun i _ => (intOf i + 1).toNat)
  case atStart => exact ⟨len, Nat.le_refl _, rfl, by simpa [backTo] using h0, Below.refl _ _⟩
  case round =>
    obtain ⟨m, hm, rfl, hJs, hnx⟩ := hrel
    have hBs' := (hnx.cell (p := ⟨Bs, 0, none⟩) hBn).trans hBs
    cases m with
    | zero =>
      have hd : ((0 : Nat) : Int) - 1 = -1 := rfl
      rw [hd]
      gi_wp2
      go_end0
      exact ⟨⟨_, rfl⟩, .inl ⟨_, rfl, by simpa using hJs⟩⟩
    | succ m =>
      rw [show ((m + 1 : Nat) : Int) - 1 = (m : Int) by omega]
      have HJ := Lib.hid hJs
      have Hbk := Lib.hid (show backAt xs (len - (m + 1)) = (m, turnAt xs m) from by rw [backAt, HL.out, show len - 1 - (len - (m + 1)) = m by omega])
      obtain ⟨q0, q1, q2⟩ := HC.out m (by omega)
      have c0 := (hnx.cell (p := ⟨b, off + m * 3, none⟩) hb).trans q0
      have c1 := (hnx.cell (p := ⟨b, off + m * 3 + 1, none⟩) hb).trans q1
      have c2 := (hnx.cell (p := ⟨b, off + m * 3 + 2, none⟩) hb).trans q2
      obtain ⟨y, hy0⟩ : ∃ y, y = turnAt xs m := ⟨_, rfl⟩
      have HY0 := Lib.hid hy0
      rw [← hy0] at c0 c1 c2
      have hmi : (m : Int) < (len : Int) := by omega
      have hm0 : (0 : Int) ≤ (m : Int) := by omega
      have hwm : IntKind.i64.wrap ((m : Int) - 1) = (m : Int) - 1 := IntWalk.i64_in _ (by omega)
      clear q0 q1 q2 hy0
      obtain ⟨fn, tmps, assign, body, hy, hR⟩ := hY _ (m, y) wr hJs (by rw [backTo_length]; omega)
      dsimp only [encB] at hy
      clear hJs
      gi_wp2
      refine hR.mono ?_
      rintro e W3 (⟨rfl, hJ3, hk3⟩ | ⟨rfl, hJx3⟩)
      · gi_wp2
        go_roundw
        case rel => exact ⟨m, by omega, rfl, by rw [show len - m = len - (m + 1) + 1 by omega, backTo_succ, Hbk.out, ← HY0.out]; exact hJ3, hnx.trans hk3⟩
        case measure => simp [intOf]
      · gi_wp2
        refine bodyPost_ret (results_none rfl _ _ _) rfl ?_
        exact ⟨⟨_, rfl⟩, .inr ⟨_, ⟨len - (m + 1), by omega, rfl⟩, by rw [backTo_succ, Hbk.out, ← HY0.out]; exact hJx3⟩⟩

set_option maxRecDepth 100000 in
set_option maxHeartbeats 1000000 in
theorem back1_nil_in (F : Fence) (n : Nat) (h8 : F.fn 243) (hro : F.round = none) (l Bs cap : Nat) (a : Option Addr) (J : List (Nat × Turn3) → World → Prop) (W : World) (hBs : W.cell? ⟨Bs, 0, none⟩ = some (.slice a 0 cap)) (h0 : J [] W) :
    CallsIn F n Tryz.prog 243 #[.func (.yield l) #[] #[], .pointer (some ⟨Bs, 0, none⟩)] W fun e W' => (∃ v, e = .returned v) ∧ J [] W' := by
  refine callsIn_of_wp Tryz.func243 rfl h8 ?_ hro
  simp only [Tryz.ntmps243, List.size_toArray, List.length_cons, List.length_nil, Nat.reduceAdd, Nat.reduceSub, Array.replicate_succ, Array.replicate_zero, List.push_toArray, List.append_toArray, List.nil_append, List.cons_append]
  gi_wp2
  gi_loopw [3] (fun i wr => i = .int .i64 (-1) ∧ J [] wr) (fun _ _ => 0)
  case atStart => exact ⟨rfl, h0⟩
  case round =>
    obtain ⟨rfl, hJs⟩ := hrel
    gi_wp2
    go_end0
    exact ⟨⟨_, rfl⟩, hJs⟩

set_option maxHeartbeats 1000000 in
theorem backward_in (F : Fence) (n : Nat) (h5 : F.fn 205) (hro : F.round = none) (a : Option Addr) (len cap : Nat) (w : World) :
    CallsIn F n Tryz.prog 205 #[.slice a len cap] w fun e w' => e = .returned (.func (.func 243) #[] #[.pointer (some ⟨w.heap.size, 0, none⟩)]) ∧ w' = w.alloc (.cells #[.slice a len cap] 48) := by
  refine callsIn_of_wp Tryz.func205 rfl h5 ?_ hro
  simp only [Tryz.ntmps205, List.size_toArray, List.length_cons, List.length_nil, Nat.reduceAdd, Nat.reduceSub, Array.replicate_succ, Array.replicate_zero, List.push_toArray, List.append_toArray, List.nil_append, List.cons_append]
  gi_wp2
  go_ret
  exact ⟨rfl, rfl⟩

/-- Turns in a row below n₀. -/
def TurnsBelow (n₀ : Nat) (W : World) (a : Option Addr) (xs : List Turn3) : Prop :=
  0 < xs.length → ∃ b off, a = some ⟨b, off, none⟩ ∧ b < n₀ ∧ ∀ j, j < xs.length → W.cell? ⟨b, off + j * 3, none⟩ = some (.int .i64 (turnAt xs j).tm) ∧ W.cell? ⟨b, off + j * 3 + 1, none⟩ = some (.string (turnAt xs j).paper) ∧ W.cell? ⟨b, off + j * 3 + 2, none⟩ = some (.bool (turnAt xs j).op)
theorem TurnsBelow.below {n₀ : Nat} {A B : World} (h : Below n₀ A B) {a : Option Addr} {xs : List Turn3} (k : TurnsBelow n₀ A a xs) : TurnsBelow n₀ B a xs := fun hl => by
  obtain ⟨b, off, ha, hb, hc⟩ := k hl
  exact ⟨b, off, ha, hb, fun j hj => ⟨(h.cell (p := ⟨b, off + j * 3, none⟩) hb).trans (hc j hj).1, (h.cell (p := ⟨b, off + j * 3 + 1, none⟩) hb).trans (hc j hj).2.1, (h.cell (p := ⟨b, off + j * 3 + 2, none⟩) hb).trans (hc j hj).2.2⟩⟩
theorem Sl.turnsBelow {w : World} {a : Option Addr} {len : Nat} {xs : List Turn3} (h : Sl RTurn 3 (fun _ => True) w a len xs) {n₀ : Nat} (hn : w.heap.size ≤ n₀) : TurnsBelow n₀ w a xs := fun hl => by
  have hlen := h.len
  obtain ⟨b, off, x, ha, -, c0, -⟩ := h.atTurn (k := 0) (by omega)
  refine ⟨b, off, ha, Nat.lt_of_lt_of_le (lt_of_cell c0) hn, fun j hj => ?_⟩
  obtain ⟨b', off', y, ha', -, p0, p1, p2, -, hy, -, -⟩ := h.atTurn (k := j) (by omega)
  rw [ha] at ha'
  cases ha'
  have e : turnAt xs j = y := by rw [turnAt, List.getD_eq_getElem?_getD, hy]; rfl
  rw [e]
  exact ⟨p0, p1, p2⟩

theorem back_stops (F : Fence) (n : Nat) (h8 : F.fn 243) (hro : F.round = none) (hn : 1 ≤ n) (Bs n₀ : Nat) (a : Option Addr) (cap : Nat) (xs : List Turn3) (hlz : xs.length ≤ 1000000) (w : World) (hBs : Bs < n₀) (hn₀ : n₀ ≤ w.heap.size)
    (hc : w.cell? ⟨Bs, 0, none⟩ = some (.slice a xs.length cap)) (hI : TurnsBelow n₀ w a xs) :
    SeqStopsK F n Tryz.prog 243 #[.pointer (some ⟨Bs, 0, none⟩)] encB (Below n₀) (fun ys => ys = backTo xs xs.length) (fun pre => ∃ k, k < xs.length ∧ pre = backTo xs (k + 1)) xs.length w := fun l J Jx W hW _ _ hY h0 => by
  have hc' := (hW.cell (p := ⟨Bs, 0, none⟩) (show Bs < w.heap.size by omega)).trans hc
  have hI' := hI.below (hW.mono hn₀)
  rcases Nat.eq_zero_or_pos xs.length with hz | hp
  · rw [hz] at hc'
    refine (back1_nil_in F n h8 hro l Bs cap a J W hc' h0).mono ?_
    rintro e W' ⟨he, hj⟩
    exact ⟨he, .inl ⟨[], by rw [hz]; rfl, hj⟩⟩
  · obtain ⟨b, off, rfl, hb, hcs⟩ := hI' hp
    exact back1_in F n h8 hro hn l Bs n₀ b off cap xs xs.length rfl hlz hb hBs J Jx hY W hc' hcs h0
end Go.Proofs.YtllkemadaemjeaaGreatDoor
