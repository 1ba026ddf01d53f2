/- Equal of credits, SameFinal and EqualFunc of finals: true of what reads alike. -/
import Derived.Test.YteanedcfiellkaaDoorGd
import Derived.Test.YteanedcfiellkaaDoorFa
import Derived.Test.YteanedcfiellkaaDoorVb
namespace Go.Proofs.YteanedcfiellkaaDoor
open Go.RowKit

set_option maxHeartbeats 800000 in
theorem equalCred_same (a1 : Option Addr) (l1 c1 : Nat) (a2 : Option Addr) (l2 c2 : Nat) (cs : List Cred) (w : World) (h1 : Sl RCred 2 (fun _ => True) w a1 l1 cs) (h2 : Sl RCred 2 (fun _ => True) w a2 l2 cs) (hl : l1 ≤ 1000000) :
    Calls Tryd.prog 93 #[.slice a1 l1 c1, .slice a2 l2 c2] w fun e w' => e = .returned (.bool true) ∧ All w w' := by
  have e1 := h1.len
  have e2 := h2.len
  have e3 : l2 = l1 := by omega
  subst e3
  clear e1 e2
  go_enter Tryd.func93, Tryd.ntmps93
  go_wp2_with fail
  go_loopw [13] (fun i wr => ∃ k : Nat, k ≤ l2 ∧ i = .int .i64 k ∧ All w wr) (fun i _ => l2 - (intOf i).toNat)
  case atStart => exact ⟨0, Nat.zero_le _, rfl, Kept.refl _ _⟩
  case round =>
    obtain ⟨k, hk, rfl, hall⟩ := hrel
    by_cases hlt : k < l2
    · obtain ⟨b1, o1, y1, ha1, -, p0, p1, -, -, hy1, -, -⟩ := (h1.keep RCred.ok hall).atCred hlt
      obtain ⟨b2, o2, y2, ha2, -, q0, q1, -, -, hy2, -, -⟩ := (h2.keep RCred.ok hall).atCred hlt
      have hy : y2 = y1 := by rw [hy1] at hy2; injection hy2 with hy2; exact hy2.symm
      subst hy
      subst ha1
      subst ha2
      clear h1 h2 hy1 hy2
      go_wp2_with fail
      go_quiet (fail)
      go_wp2_with fail
      go_roundw
      case rel => exact ⟨k + 1, by omega, by go_num, hall.then_drewN _⟩
      case measure => simp [intOf]; omega
    · have hd : decide ((k : Int) < (l2 : Int)) = false := by simp; omega
      go_wp2_with fail
      go_ret
      exact ⟨rfl, hall⟩

def finV (x : Fin4) (a : Option Addr) (c : Nat) : Array Value := #[.string x.paper, .string x.title, .int .i64 x.pages, .slice a x.credits.length c]
set_option maxHeartbeats 800000 in
theorem sameFinal_same (x : Fin4) (a1 : Option Addr) (c1 : Nat) (a2 : Option Addr) (c2 : Nat) (w : World) (h1 : Sl RCred 2 (fun _ => True) w a1 x.credits.length x.credits) (h2 : Sl RCred 2 (fun _ => True) w a2 x.credits.length x.credits) (hl : x.credits.length ≤ 1000000) :
    Calls Tryd.prog 39 #[.agg #[.string x.paper, .string x.title, .int .i64 x.pages, .slice a1 x.credits.length c1], .agg #[.string x.paper, .string x.title, .int .i64 x.pages, .slice a2 x.credits.length c2]] w fun e w' => e = .returned (.bool true) ∧ All w w' := by
  have hk : All w ((w.alloc (.cells #[.string x.paper, .string x.title, .int .i64 x.pages, .slice a1 x.credits.length c1] 65)).alloc (.cells #[.string x.paper, .string x.title, .int .i64 x.pages, .slice a2 x.credits.length c2] 65)) := (Kept.alloc _ _ _).then_alloc _
  have hE := Lib.hid (equalCred_same a1 _ c1 a2 _ c2 x.credits _ (h1.keep RCred.ok hk) (h2.keep RCred.ok hk) hl)
  clear h1 h2
  go_enter Tryd.func39, Tryd.ntmps39
  go_wp2_with fail
  refine hE.out.mono ?_
  rintro e w2 ⟨rfl, hw2⟩
  go_wp2_with fail
  go_ret
  exact ⟨rfl, hk.trans hw2⟩

set_option maxHeartbeats 800000 in
theorem equalFin_same (a1 : Option Addr) (l1 c1 : Nat) (a2 : Option Addr) (l2 c2 : Nat) (xs : List Fin4) (w : World) (h1 : Sl RFin 4 (fun _ => True) w a1 l1 xs) (h2 : Sl RFin 4 (fun _ => True) w a2 l2 xs) (hl : l1 ≤ 1000000) :
    Calls Tryd.prog 38 #[.slice a1 l1 c1, .slice a2 l2 c2, .func (.func 39) #[] #[]] w fun e w' => e = .returned (.bool true) ∧ All w w' := by
  have e1 := h1.len
  have e2 := h2.len
  have e3 : l2 = l1 := by omega
  subst e3
  clear e1 e2
  have eg : ∀ args w, (callFunc 39 args).run Tryd.prog w = .ok (.enter 39 args) w := enters_of Tryd.func39 (by kernel_rfl) rfl
  go_enter Tryd.func38, Tryd.ntmps38
  go_wp2_with fail
  go_loopw [17] (fun i wr => ∃ k : Nat, k ≤ l2 ∧ i = .int .i64 k ∧ All w wr) (fun i _ => l2 - (intOf i).toNat)
  case atStart => exact ⟨0, Nat.zero_le _, rfl, Kept.refl _ _⟩
  case round =>
    obtain ⟨k, hk, rfl, hall⟩ := hrel
    obtain ⟨wo, rfl⟩ : ∃ wo : World, wo = wr := ⟨_, rfl⟩
    by_cases hlt : k < l2
    · obtain ⟨b1, o1, y1, ac1, cc1, ha1, -, p0, p1, p2, p3, hs1, -, hc1, hy1, -, -⟩ := (h1.keep RFin.ok hall).atFin hlt
      obtain ⟨b2, o2, y2, ac2, cc2, ha2, -, q0, q1, q2, q3, -, -, hc2, hy2, -, -⟩ := (h2.keep RFin.ok hall).atFin hlt
      have hy : y2 = y1 := by rw [hy1] at hy2; injection hy2 with hy2; exact hy2.symm
      subst hy
      subst ha1
      subst ha2
      have hcl : y2.credits.length ≤ 1000 := hs1.2.2.2.2
      have hk2 : All wo ((wo.alloc (.cells #[.string y2.paper, .string y2.title, .int .i64 y2.pages, .slice ac1 y2.credits.length cc1] 65)).alloc (.cells #[.string y2.paper, .string y2.title, .int .i64 y2.pages, .slice ac2 y2.credits.length cc2] 65)) := (Kept.alloc _ _ _).then_alloc _
      have hE := Lib.hid (sameFinal_same y2 ac1 cc1 ac2 cc2 _ (hc1.keep RCred.ok hk2) (hc2.keep RCred.ok hk2) (by omega))
      have hb1 := lt_of_cell p0
      have hb2 := lt_of_cell q0
      clear h1 h2 hy1 hy2 hc1 hc2 hs1
      go_wp2_with fail
      refine hE.out.mono ?_
      rintro e w2 ⟨rfl, hw2⟩
      go_wp2_with fail
      go_roundw
      case rel => exact ⟨k + 1, by omega, by go_num, (hall.trans hk2).trans hw2⟩
      case measure => simp [intOf]; omega
    · have hd : decide ((k : Int) < (l2 : Int)) = false := by simp; omega
      go_wp2_with fail
      go_ret
      exact ⟨rfl, hall⟩
end Go.Proofs.YteanedcfiellkaaDoor
