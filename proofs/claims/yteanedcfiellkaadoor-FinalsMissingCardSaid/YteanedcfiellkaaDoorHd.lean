/- slices.Sort of strings that the call gathered; Equal of strings. -/
import Derived.Test.YteanedcfiellkaaDoorHa
import Derived.Test.YteanedcfiellkaaDoorSl
namespace Go.Proofs.YteanedcfiellkaaDoor
open Go.RowKit Go.Sort

theorem sort_any {T : TypeId} {F : Nat → Prop} {B : Nat} (v : Value) (ss : List ByteArray) (w : World) (h : Acc RStr 1 T F B w v ss) (hl : ss.length ≤ 1000000) :
    Calls Tryd.prog 106 #[v] w fun e w' => e = .returned (.tuple #[]) ∧ Acc RStr 1 T F B w' v (sortB ss) ∧ w.grownBy w' v.ownBlock := by
  obtain ⟨ho, hz⟩ := h.strCells
  rcases ho.2 with ⟨rfl, h0⟩ | ⟨g, cap, cur, rfl, hbase, hb, h1, h2, h3, h4⟩
  · have hnil : ss = [] := List.eq_nil_of_length_eq_zero h0
    subst hnil
    refine (Tryd.slices_Sort_string_none none 0 w).mono ?_
    rintro e w' ⟨rfl, rfl⟩
    exact ⟨rfl, by rw [show sortB [] = [] by simp [sortB]]; exact h, ⟨rfl, rfl, rfl, Nat.le_refl _, fun _ _ _ => rfl⟩⟩
  · have hl2 : (ss.map fun s => s.data.toList).length = ss.length := by simp
    have hmap : ss.map Value.string = (ss.map fun s => s.data.toList).map encStr := by simp
    have hH : Holds encStr w g 0 (ss.map fun s => s.data.toList).toArray := Go.holds_of_block hb (by rw [hl2, ← hmap]; simpa using h4)
    have hC := Tryd.slices_Sort_string g 0 cap (ss.map fun s => s.data.toList) w hH (Array.getElem?_eq_some_iff.1 hb).1 (by rw [hl2]; omega)
    rw [hl2] at hC
    refine hC.mono ?_
    rintro e w' ⟨rfl, n, os, rfl⟩
    refine ⟨rfl, ?_, Go.grownBy_sorted _⟩
    have hs := Go.ownsRow_sorted (w := w) (base := B) (g := g) (cap := cap) (n := n) (e := T) (os := os) (cur := cur) (ss := ss.map fun s => s.data.toList) (ts := (ss.map fun s => s.data.toList).mergeSort fun x y => decide (x ≤ y)) (by simp) hbase hb (by rw [hl2]; exact h1) h2 h3
    rw [hl2] at hs
    refine Acc.ofStrCells ?_ (sortB_size hz)
    rw [sortB_length]
    have e1 : (sortB ss).map Value.string = ((ss.map fun s => s.data.toList).mergeSort fun x y => decide (x ≤ y)).map encStr := by simp [sortB]
    rw [e1]
    exact hs

set_option maxHeartbeats 800000 in
theorem equalStr_same (a1 : Option Addr) (l1 c1 : Nat) (a2 : Option Addr) (l2 c2 : Nat) (cs : List ByteArray) (w : World) (h1 : Sl RStr 1 (fun _ => True) w a1 l1 cs) (h2 : Sl RStr 1 (fun _ => True) w a2 l2 cs) (hl : l1 ≤ 1000000) :
    Calls Tryd.prog 45 #[.slice a1 l1 c1, .slice a2 l2 c2] w fun e w' => e = .returned (.bool true) ∧ All w w' := by
  have e1 := h1.len
  have e2 := h2.len
  have e3 : l2 = l1 := by omega
  subst e3
  clear e1 e2
  go_enter Tryd.func45, Tryd.ntmps45
  go_wp2_with fail
  go_loopw [13] (fun i wr => ∃ k : Nat, k ≤ l2 ∧ i = .int .i64 k ∧ All w wr) (fun i _ => l2 - (intOf i).toNat)
  case atStart => exact ⟨0, Nat.zero_le _, rfl, Kept.refl _ _⟩
  case round =>
    obtain ⟨k, hk, rfl, hall⟩ := hrel
    by_cases hlt : k < l2
    · obtain ⟨b1, o1, y1, ha1, -, p0, -, hy1, -, -⟩ := (h1.keep RStr.ok hall).atStr hlt
      obtain ⟨b2, o2, y2, ha2, -, q0, -, hy2, -, -⟩ := (h2.keep RStr.ok hall).atStr hlt
      have hy : y2 = y1 := by rw [hy1] at hy2; injection hy2 with hy2; exact hy2.symm
      subst hy
      subst ha1
      subst ha2
      clear h1 h2 hy1 hy2
      go_wp2_with fail
      go_quiet (fail)
      go_wp2_with fail
      go_roundw
      case rel => exact ⟨k + 1, by omega, by go_num, hall.then_drewN _⟩
      case measure => simp [intOf]; omega
    · have hd : decide ((k : Int) < (l2 : Int)) = false := by simp; omega
      go_wp2_with fail
      go_ret
      exact ⟨rfl, hall⟩
end Go.Proofs.YteanedcfiellkaaDoor
