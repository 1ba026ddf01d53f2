/- Equal of ints, the law's comparison of papers that are called, EqualFunc: true of what reads alike. -/
import Derived.Test.YtiecaedgphdfdaaGreatDoorUd
namespace Go.Proofs.YtiecaedgphdfdaaGreatDoor
open Go.RowKit

set_option maxHeartbeats 800000 in
theorem equalI_same (a1 : Option Addr) (l1 c1 : Nat) (a2 : Option Addr) (l2 c2 : Nat) (cs : List Int) (w : World) (h1 : Sl RInt 1 (fun _ => True) w a1 l1 cs) (h2 : Sl RInt 1 (fun _ => True) w a2 l2 cs) (hl : l1 ≤ 1000000) :
    Calls Tryz.prog 37 #[.slice a1 l1 c1, .slice a2 l2 c2] w fun e w' => e = .returned (.bool true) ∧ All w w' := by
  have e1 := h1.len
  have e2 := h2.len
  have e3 : l2 = l1 := by omega
  subst e3
  clear e1 e2
  go_enter Tryz.func37, Tryz.ntmps37
  go_wp2_with fail
  go_loopw [13] (fun i wr => ∃ k : Nat, k ≤ l2 ∧ i = .int .i64 k ∧ All w wr) (fun i _ => l2 - (intOf i).toNat)
  case atStart => exact ⟨0, Nat.zero_le _, rfl, Kept.refl _ _⟩
  case round =>
    obtain ⟨k, hk, rfl, hall⟩ := hrel
    by_cases hlt : k < l2
    · obtain ⟨b1, o1, ha1, -, hc1⟩ := (h1.keep RInt.ok hall).ints (by omega)
      obtain ⟨b2, o2, ha2, -, hc2⟩ := (h2.keep RInt.ok hall).ints (by omega)
      have p0 := hc1 k hlt
      have q0 := hc2 k hlt
      generalize cs.getD k 0 = y at p0 q0
      subst ha1
      subst ha2
      clear h1 h2 hc1 hc2
      go_wp2_with fail
      go_quiet (fail)
      go_wp2_with fail
      go_roundw
      case rel => exact ⟨k + 1, by omega, by go_num, hall.then_drewN _⟩
      case measure => simp [intOf]; omega
    · have hd : decide ((k : Int) < (l2 : Int)) = false := by simp; omega
      go_wp2_with fail
      go_ret
      exact ⟨rfl, hall⟩

set_option maxHeartbeats 800000 in
theorem called1_same (y : ByteArray) (zs : List Int) (a1 : Option Addr) (l1 c1 : Nat) (a2 : Option Addr) (l2 c2 : Nat) (w : World) (h1 : Sl RInt 1 (fun _ => True) w a1 l1 zs) (h2 : Sl RInt 1 (fun _ => True) w a2 l2 zs) (hl : l1 ≤ 1000000) :
    Calls Tryz.prog 36 #[.agg #[.string y, .slice a1 l1 c1], .agg #[.string y, .slice a2 l2 c2]] w fun e w' => e = .returned (.bool true) ∧ All w w' := by
  have hk : All w ((w.alloc (.cells #[.string y, .slice a1 l1 c1] 77)).alloc (.cells #[.string y, .slice a2 l2 c2] 77)) := (Kept.alloc _ _ _).then_alloc _
  have hE := Lib.hid (equalI_same a1 l1 c1 a2 l2 c2 zs _ (h1.keep RInt.ok hk) (h2.keep RInt.ok hk) hl)
  clear h1 h2
  go_enter Tryz.func36, Tryz.ntmps36
  go_wp2_with fail
  refine hE.out.mono ?_
  rintro e w2 ⟨rfl, hw2⟩
  go_wp2_with fail
  go_ret
  exact ⟨rfl, hk.trans hw2⟩

theorem Sl.atCalled {F : Nat → Prop} {w : World} {a : Option Addr} {len : Nat} {xs : List (ByteArray × List Int)} (h : Sl RCalled 2 F w a len xs) {k : Nat} (hk : k < len) :
    ∃ b off x aw nw cw, a = some ⟨b, off, none⟩ ∧ w.cell? ⟨b, off + k * 2, none⟩ = some (.string x.1) ∧ w.cell? ⟨b, off + k * 2 + 1, none⟩ = some (.slice aw nw cw) ∧ nw ≤ 4 ∧ Sl RInt 1 F w aw nw x.2 ∧ xs[k]? = some x := by
  obtain ⟨b, off, vs, x, ha, hF, h1, h2, ⟨aw, nw, cw, rfl, h3, h4, h5⟩, h6, -, -⟩ := h.at hk
  exact ⟨b, off, x, aw, nw, cw, ha, by simpa using h2 0 (by simp), by simpa using h2 1 (by simp), h4, h5, h6⟩

set_option maxHeartbeats 800000 in
theorem equalCalled_same (a1 : Option Addr) (l1 c1 : Nat) (a2 : Option Addr) (l2 c2 : Nat) (xs : List (ByteArray × List Int)) (w : World) (h1 : Sl RCalled 2 (fun _ => True) w a1 l1 xs) (h2 : Sl RCalled 2 (fun _ => True) w a2 l2 xs) (hl : l1 ≤ 1000000) :
    Calls Tryz.prog 38 #[.slice a1 l1 c1, .slice a2 l2 c2, .func (.func 36) #[] #[]] w fun e w' => e = .returned (.bool true) ∧ All w w' := by
  have e1 := h1.len
  have e2 := h2.len
  have e3 : l2 = l1 := by omega
  subst e3
  clear e1 e2
  have eg : ∀ args w, (callFunc 36 args).run Tryz.prog w = .ok (.enter 36 args) w := enters_of Tryz.func36 (by kernel_rfl) rfl
  go_enter Tryz.func38, Tryz.ntmps38
  go_wp2_with fail
  go_loopw [17] (fun i wr => ∃ k : Nat, k ≤ l2 ∧ i = .int .i64 k ∧ All w wr) (fun i _ => l2 - (intOf i).toNat)
  case atStart => exact ⟨0, Nat.zero_le _, rfl, Kept.refl _ _⟩
  case round =>
    obtain ⟨k, hk, rfl, hall⟩ := hrel
    obtain ⟨wo, rfl⟩ : ∃ wo : World, wo = wr := ⟨_, rfl⟩
    by_cases hlt : k < l2
    · obtain ⟨b1, o1, y1, aw1, nw1, cw1, ha1, p0, p1, hn1, hc1, hy1⟩ := (h1.keep RCalled.ok hall).atCalled hlt
      obtain ⟨b2, o2, y2, aw2, nw2, cw2, ha2, q0, q1, -, hc2, hy2⟩ := (h2.keep RCalled.ok hall).atCalled hlt
      have hy : y2 = y1 := by rw [hy1] at hy2; injection hy2 with hy2; exact hy2.symm
      subst hy
      subst ha1
      subst ha2
      obtain ⟨ys, zs⟩ := y2
      simp only at p0 q0 hc1 hc2
      have hk2 : All wo ((wo.alloc (.cells #[.string ys, .slice aw1 nw1 cw1] 77)).alloc (.cells #[.string ys, .slice aw2 nw2 cw2] 77)) := (Kept.alloc _ _ _).then_alloc _
      have hE := Lib.hid (called1_same ys zs aw1 nw1 cw1 aw2 nw2 cw2 _ (hc1.keep RInt.ok hk2) (hc2.keep RInt.ok hk2) (by omega))
      have hb1 := lt_of_cell p0
      have hb2 := lt_of_cell q0
      clear h1 h2 hy1 hy2 hc1 hc2
      go_wp2_with fail
      refine hE.out.mono ?_
      rintro e w2 ⟨rfl, hw2⟩
      go_wp2_with fail
      go_roundw
      case rel => exact ⟨k + 1, by omega, by go_num, (hall.trans hk2).trans hw2⟩
      case measure => simp [intOf]; omega
    · have hd : decide ((k : Int) < (l2 : Int)) = false := by simp; omega
      go_wp2_with fail
      go_ret
      exact ⟨rfl, hall⟩
end Go.Proofs.YtiecaedgphdfdaaGreatDoor
