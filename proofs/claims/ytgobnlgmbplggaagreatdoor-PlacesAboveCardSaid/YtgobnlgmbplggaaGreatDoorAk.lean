/- Equal of strings: true of what reads alike. -/
import Derived.Test.YtgobnlgmbplggaaGreatDoorZd
import Derived.Test.YtgobnlgmbplggaaGreatDoorWj
namespace Go.Proofs.YtgobnlgmbplggaaGreatDoor
open Go.RowKit

set_option maxHeartbeats 800000 in
theorem equalStr_same (a1 : Option Addr) (l1 c1 : Nat) (a2 : Option Addr) (l2 c2 : Nat) (cs : List ByteArray) (w : World) (h1 : Sl RStr 1 (fun _ => True) w a1 l1 cs) (h2 : Sl RStr 1 (fun _ => True) w a2 l2 cs) (hl : l1 ≤ 1000000) :
    Calls Tryz.prog 30 #[.slice a1 l1 c1, .slice a2 l2 c2] w fun e w' => e = .returned (.bool true) ∧ All w w' := by
  have e1 := h1.len
  have e2 := h2.len
  have e3 : l2 = l1 := by omega
  subst e3
  clear e1 e2
  go_enter Tryz.func30, Tryz.ntmps30
  go_wp2_with fail
  go_loopw [13] (fun i wr => ∃ k : Nat, k ≤ l2 ∧ i = .int .i64 k ∧ All w wr) (fun i _ => l2 - (intOf i).toNat)
  case atStart => exact ⟨0, Nat.zero_le _, rfl, Kept.refl _ _⟩
  case round =>
    obtain ⟨k, hk, rfl, hall⟩ := hrel
    by_cases hlt : k < l2
    · obtain ⟨b1, o1, y1, ha1, -, p0, -, hy1, -, -⟩ := (h1.keep RStr.ok hall).atStr hlt
      obtain ⟨b2, o2, y2, ha2, -, q0, -, hy2, -, -⟩ := (h2.keep RStr.ok hall).atStr hlt
      have hy : y2 = y1 := by rw [hy1] at hy2; injection hy2 with hy2; exact hy2.symm
      subst hy
      subst ha1
      subst ha2
      clear h1 h2 hy1 hy2
      go_wp2_with fail
      go_quiet (fail)
      go_wp2_with fail
      go_roundw
      case rel => exact ⟨k + 1, by omega, by go_num, hall.then_drewN _⟩
      case measure => simp [intOf]; omega
    · have hd : decide ((k : Int) < (l2 : Int)) = false := by simp; omega
      go_wp2_with fail
      go_ret
      exact ⟨rfl, hall⟩
end Go.Proofs.YtgobnlgmbplggaaGreatDoor
