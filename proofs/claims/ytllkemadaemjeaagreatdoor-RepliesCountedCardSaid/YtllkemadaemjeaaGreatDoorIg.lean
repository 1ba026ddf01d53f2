/- Equal of replies, EqualFunc of papers and replies: true of what reads alike. -/
import Derived.Test.YtllkemadaemjeaaGreatDoorDk
import Derived.Test.YtllkemadaemjeaaGreatDoorZb
namespace Go.Proofs.YtllkemadaemjeaaGreatDoor
open Go.RowKit

set_option maxHeartbeats 800000 in
theorem equalReply_same (a1 : Option Addr) (l1 c1 : Nat) (a2 : Option Addr) (l2 c2 : Nat) (cs : List Rep3) (w : World) (h1 : Sl RReply 3 (fun _ => True) w a1 l1 cs) (h2 : Sl RReply 3 (fun _ => True) w a2 l2 cs) (hl : l1 ≤ 1000000) :
    Calls Tryz.prog 38 #[.slice a1 l1 c1, .slice a2 l2 c2] w fun e w' => e = .returned (.bool true) ∧ All w w' := by
  have e1 := h1.len
  have e2 := h2.len
  have e3 : l2 = l1 := by omega
  subst e3
  clear e1 e2
  go_enter Tryz.func38, Tryz.ntmps38
  go_wp2_with fail
  go_loopw [13] (fun i wr => ∃ k : Nat, k ≤ l2 ∧ i = .int .i64 k ∧ All w wr) (fun i _ => l2 - (intOf i).toNat)
  case atStart => exact ⟨0, Nat.zero_le _, rfl, Kept.refl _ _⟩
  case round =>
    obtain ⟨k, hk, rfl, hall⟩ := hrel
    by_cases hlt : k < l2
    · obtain ⟨b1, o1, y1, ha1, -, p0, p1, p2, -, hy1, -, -⟩ := (h1.keep RReply.ok hall).atReply hlt
      obtain ⟨b2, o2, y2, ha2, -, q0, q1, q2, -, hy2, -, -⟩ := (h2.keep RReply.ok hall).atReply hlt
      have hy : y2 = y1 := by rw [hy1] at hy2; injection hy2 with hy2; exact hy2.symm
      subst hy
      subst ha1
      subst ha2
      clear h1 h2 hy1 hy2
      go_wp2_with fail
      go_quiet (fail)
      go_wp2_with fail
      go_roundw
      case rel => exact ⟨k + 1, by omega, by go_num, hall.then_drewN _⟩
      case measure => simp [intOf]; omega
    · have hd : decide ((k : Int) < (l2 : Int)) = false := by simp; omega
      go_wp2_with fail
      go_ret
      exact ⟨rfl, hall⟩

theorem repliesCounted1_any (s : ByteArray) (x : Rep3) (w : World) (h : s = x.paper) :
    Calls Tryz.prog 40 #[.string s, .agg #[.string x.paper, .int .i64 x.tm, .string x.words]] w fun e w' => e = .returned (.bool true) ∧ All w w' := by
  subst h
  have hk : All w (w.alloc (.cells #[.string x.paper, .int .i64 x.tm, .string x.words] 79)) := Kept.alloc _ _ _
  go_enter Tryz.func40, Tryz.ntmps40
  go_wp2_with fail
  go_ret
  exact ⟨by first | rfl | simp, hk⟩
set_option maxHeartbeats 1600000 in
theorem equalFuncReply_same (a1 : Option Addr) (l1 c1 : Nat) (a2 : Option Addr) (l2 c2 : Nat) (cs : List Rep3) (w : World) (h1 : Sl RStr 1 (fun _ => True) w a1 l1 (cs.map Rep3.paper)) (h2 : Sl RReply 3 (fun _ => True) w a2 l2 cs) (hl : l1 ≤ 1000000) :
    Calls Tryz.prog 39 #[.slice a1 l1 c1, .slice a2 l2 c2, .func (.func 40) #[] #[]] w fun e w' => e = .returned (.bool true) ∧ All w w' := by
  have e1 := h1.len
  have e2 := h2.len
  have e3 : l2 = l1 := by rw [List.length_map] at e1; omega
  subst e3
  clear e1 e2
  have ef : ∀ args w, (callFunc 40 args).run Tryz.prog w = .ok (.enter 40 args) w := enters_of Tryz.func40 (by kernel_rfl) rfl
  go_enter Tryz.func39, Tryz.ntmps39
  go_wp2_with fail
  go_loopw [17] (fun i wr => ∃ k : Nat, k ≤ l2 ∧ i = .int .i64 k ∧ All w wr) (fun i _ => l2 - (intOf i).toNat)
  case atStart => exact ⟨0, Nat.zero_le _, rfl, Kept.refl _ _⟩
  case round =>
    obtain ⟨k, hk, rfl, hall⟩ := hrel
    obtain ⟨wo, rfl⟩ : ∃ wo : World, wo = wr := ⟨_, rfl⟩
    by_cases hlt : k < l2
    · obtain ⟨b1, o1, y1, ha1, -, p0, -, hy1, -, -⟩ := (h1.keep RStr.ok hall).atStr hlt
      obtain ⟨b2, o2, y2, ha2, -, q0, q1, q2, -, hy2, -, -⟩ := (h2.keep RReply.ok hall).atReply hlt
      have hy : y1 = y2.paper := by
        rw [List.getElem?_map, hy2] at hy1
        simpa using hy1.symm
      subst ha1
      subst ha2
      have HY := Lib.hid hy
      have hka : All wo (wo.alloc (.cells #[.string y2.paper, .int .i64 y2.tm, .string y2.words] 79)) := Kept.alloc _ _ _
      clear h1 h2 hy1 hy2 hy
      go_wp2_with fail
      refine (repliesCounted1_any y1 y2 _ HY.out).mono ?_
      rintro e w' ⟨rfl, hw⟩
      go_wp2_with fail
      go_roundw
      case rel => exact ⟨k + 1, by omega, by go_num, (hall.trans hka).trans hw⟩
      case measure => simp [intOf]; omega
    · have hd : decide ((k : Int) < (l2 : Int)) = false := by simp; omega
      go_wp2_with fail
      go_ret
      exact ⟨rfl, hall⟩
end Go.Proofs.YtllkemadaemjeaaGreatDoor
