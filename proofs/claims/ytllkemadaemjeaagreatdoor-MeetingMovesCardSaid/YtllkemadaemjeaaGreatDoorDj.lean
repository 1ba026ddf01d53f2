/- Equal of strings, SameStep, EqualFunc of steps: true of what reads alike. -/
import Derived.Test.YtllkemadaemjeaaGreatDoorDf
namespace Go.Proofs.YtllkemadaemjeaaGreatDoor
open Go.RowKit

set_option maxHeartbeats 800000 in
theorem equalS_same (a1 : Option Addr) (l1 c1 : Nat) (a2 : Option Addr) (l2 c2 : Nat) (cs : List ByteArray) (w : World) (h1 : Sl RStr 1 (fun _ => True) w a1 l1 cs) (h2 : Sl RStr 1 (fun _ => True) w a2 l2 cs) (hl : l1 ≤ 1000000) :
    Calls Tryz.prog 47 #[.slice a1 l1 c1, .slice a2 l2 c2] w fun e w' => e = .returned (.bool true) ∧ All w w' := by
  have e1 := h1.len
  have e2 := h2.len
  have e3 : l2 = l1 := by omega
  subst e3
  clear e1 e2
  go_enter Tryz.func47, Tryz.ntmps47
  go_wp2_with fail
  go_loopw [13] (fun i wr => ∃ k : Nat, k ≤ l2 ∧ i = .int .i64 k ∧ All w wr) (fun i _ => l2 - (intOf i).toNat)
  case atStart => exact ⟨0, Nat.zero_le _, rfl, Kept.refl _ _⟩
  case round =>
    obtain ⟨k, hk, rfl, hall⟩ := hrel
    by_cases hlt : k < l2
    · obtain ⟨b1, o1, y1, ha1, -, p0, -, hy1, -, -⟩ := (h1.keep RStr.ok hall).atStr hlt
      obtain ⟨b2, o2, y2, ha2, -, q0, -, hy2, -, -⟩ := (h2.keep RStr.ok hall).atStr hlt
      have hy : y2 = y1 := by rw [hy1] at hy2; injection hy2 with hy2; exact hy2.symm
      subst hy
      subst ha1
      subst ha2
      clear h1 h2 hy1 hy2
      go_wp2_with fail
      go_quiet (fail)
      go_wp2_with fail
      go_roundw
      case rel => exact ⟨k + 1, by omega, by go_num, hall.then_drewN _⟩
      case measure => simp [intOf]; omega
    · have hd : decide ((k : Int) < (l2 : Int)) = false := by simp; omega
      go_wp2_with fail
      go_ret
      exact ⟨rfl, hall⟩

set_option maxHeartbeats 800000 in
theorem sameStep_any (y : ByteArray) (zs us : List ByteArray) (a1 : Option Addr) (l1 c1 : Nat) (a2 : Option Addr) (l2 c2 : Nat) (b1 : Option Addr) (m1 d1 : Nat) (b2 : Option Addr) (m2 d2 : Nat) (w : World)
    (h1 : Sl RStr 1 (fun _ => True) w a1 l1 zs) (h2 : Sl RStr 1 (fun _ => True) w a2 l2 zs) (hl : l1 ≤ 1000000) (h3 : Sl RStr 1 (fun _ => True) w b1 m1 us) (h4 : Sl RStr 1 (fun _ => True) w b2 m2 us) (hm : m1 ≤ 1000000) :
    Calls Tryz.prog 19 #[.agg #[.string y, .slice a1 l1 c1, .slice b1 m1 d1], .agg #[.string y, .slice a2 l2 c2, .slice b2 m2 d2]] w fun e w' => e = .returned (.bool true) ∧ All w w' := by
  have hk : All w ((w.alloc (.cells #[.string y, .slice a1 l1 c1, .slice b1 m1 d1] 44)).alloc (.cells #[.string y, .slice a2 l2 c2, .slice b2 m2 d2] 44)) := (Kept.alloc _ _ _).then_alloc _
  have hA := Lib.hid (fun wx (k : All ((w.alloc (.cells #[.string y, .slice a1 l1 c1, .slice b1 m1 d1] 44)).alloc (.cells #[.string y, .slice a2 l2 c2, .slice b2 m2 d2] 44)) wx) => equalS_same a1 l1 c1 a2 l2 c2 zs wx ((h1.keep RStr.ok hk).keep RStr.ok k) ((h2.keep RStr.ok hk).keep RStr.ok k) hl)
  have hB := Lib.hid (fun wx (k : All ((w.alloc (.cells #[.string y, .slice a1 l1 c1, .slice b1 m1 d1] 44)).alloc (.cells #[.string y, .slice a2 l2 c2, .slice b2 m2 d2] 44)) wx) => equalS_same b1 m1 d1 b2 m2 d2 us wx ((h3.keep RStr.ok hk).keep RStr.ok k) ((h4.keep RStr.ok hk).keep RStr.ok k) hm)
  have hp1 := heap_old (.cells #[.string y, .slice a2 l2 c2, .slice b2 m2 d2] 44) (heap_at w (.cells #[.string y, .slice a1 l1 c1, .slice b1 m1 d1] 44) _ rfl)
  have hp2 := heap_at (w.alloc (.cells #[.string y, .slice a1 l1 c1, .slice b1 m1 d1] 44)) (.cells #[.string y, .slice a2 l2 c2, .slice b2 m2 d2] 44) _ rfl
  have HC := Lib.hid (fun wx (k : All ((w.alloc (.cells #[.string y, .slice a1 l1 c1, .slice b1 m1 d1] 44)).alloc (.cells #[.string y, .slice a2 l2 c2, .slice b2 m2 d2] 44)) wx) => And.intro (k.cell (cell_at (i := 2) hp1 rfl) trivial) (k.cell (cell_at (i := 2) hp2 rfl) trivial))
  have r0 := cell_at (i := 0) hp1 rfl
  have r1 := cell_at (i := 1) hp1 rfl
  have r2 := cell_at (i := 2) hp1 rfl
  have s0 := cell_at (i := 0) hp2 rfl
  have s1 := cell_at (i := 1) hp2 rfl
  have s2 := cell_at (i := 2) hp2 rfl
  obtain ⟨k1, hk1⟩ : ∃ k, k = w.heap.size := ⟨_, rfl⟩
  obtain ⟨k2, hk2⟩ : ∃ k, k = (w.alloc (.cells #[.string y, .slice a1 l1 c1, .slice b1 m1 d1] 44)).heap.size := ⟨_, rfl⟩
  have hk3 : w.heap.size + 1 = k2 := by rw [hk2]; simp
  have HK1 := Lib.hid hk1
  have HK3 := Lib.hid hk3
  rw [← hk1] at r0 r1 r2 HC
  rw [← hk2] at s0 s1 s2 HC
  clear h1 h2 h3 h4 hp1 hp2 hk1 hk2 hk3
  go_enter Tryz.func19, Tryz.ntmps19
  go_wp2_with fail
  rw [HK3.out, ← HK1.out]
  generalize (w.alloc (.cells #[.string y, .slice a1 l1 c1, .slice b1 m1 d1] 44)).alloc (.cells #[.string y, .slice a2 l2 c2, .slice b2 m2 d2] 44) = w1 at *
  refine (hA.out _ (Kept.refl _ _)).mono ?_
  rintro e w2 ⟨rfl, hw2⟩
  obtain ⟨t1, t2⟩ := HC.out _ hw2
  clear r0 r1 r2 s0 s1 s2
  go_wp2_with fail
  refine (hB.out _ hw2).mono ?_
  rintro e w3 ⟨rfl, hw3⟩
  go_wp2_with fail
  go_ret
  exact ⟨rfl, hk.trans (hw2.trans hw3)⟩

set_option maxHeartbeats 1600000 in
theorem equalSteps_same (a1 : Option Addr) (l1 c1 : Nat) (a2 : Option Addr) (l2 c2 : Nat) (xs : List Step3) (w : World) (h1 : Sl RStep 3 (fun _ => True) w a1 l1 xs) (h2 : Sl RStep 3 (fun _ => True) w a2 l2 xs) (hl : l1 ≤ 1000000) :
    Calls Tryz.prog 17 #[.slice a1 l1 c1, .slice a2 l2 c2, .func (.func 19) #[] #[]] w fun e w' => e = .returned (.bool true) ∧ All w w' := by
  have e1 := h1.len
  have e2 := h2.len
  have e3 : l2 = l1 := by omega
  subst e3
  clear e1 e2
  have eg : ∀ args w, (callFunc 19 args).run Tryz.prog w = .ok (.enter 19 args) w := enters_of Tryz.func19 (by kernel_rfl) rfl
  go_enter Tryz.func17, Tryz.ntmps17
  go_wp2_with fail
  go_loopw [17] (fun i wr => ∃ k : Nat, k ≤ l2 ∧ i = .int .i64 k ∧ All w wr) (fun i _ => l2 - (intOf i).toNat)
  case atStart => exact ⟨0, Nat.zero_le _, rfl, Kept.refl _ _⟩
  case round =>
    obtain ⟨k, hk, rfl, hall⟩ := hrel
    obtain ⟨wo, rfl⟩ : ∃ wo : World, wo = wr := ⟨_, rfl⟩
    by_cases hlt : k < l2
    · obtain ⟨b1, o1, y1, f1, n1, g1, f2, n2, g2, ha1, p0, p1, p2, hn1, hn2, hc1, hc2, hy1, -⟩ := (h1.keep RStep.ok hall).atStep hlt
      obtain ⟨b2, o2, y2, f3, n3, g3, f4, n4, g4, ha2, q0, q1, q2, -, -, hc3, hc4, hy2, -⟩ := (h2.keep RStep.ok hall).atStep hlt
      have hy : y2 = y1 := by rw [hy1] at hy2; injection hy2 with hy2; exact hy2.symm
      subst hy
      subst ha1
      subst ha2
      obtain ⟨ys, zs, us⟩ := y2
      simp only at p0 q0 hc1 hc2 hc3 hc4
      have hk2 : All wo ((wo.alloc (.cells #[.string ys, .slice f1 n1 g1, .slice f2 n2 g2] 44)).alloc (.cells #[.string ys, .slice f3 n3 g3, .slice f4 n4 g4] 44)) := (Kept.alloc _ _ _).then_alloc _
      have hE := Lib.hid (sameStep_any ys zs us f1 n1 g1 f3 n3 g3 f2 n2 g2 f4 n4 g4 _ (hc1.keep RStr.ok hk2) (hc3.keep RStr.ok hk2) (by omega) (hc2.keep RStr.ok hk2) (hc4.keep RStr.ok hk2) (by omega))
      have hb1 := lt_of_cell p0
      have hb2 := lt_of_cell q0
      clear h1 h2 hy1 hy2 hc1 hc2 hc3 hc4
      go_wp2_with fail
      refine hE.out.mono ?_
      rintro e w2 ⟨rfl, hw2⟩
      go_wp2_with fail
      go_roundw
      case rel => exact ⟨k + 1, by omega, by go_num, (hall.trans hk2).trans hw2⟩
      case measure => simp [intOf]; omega
    · have hd : decide ((k : Int) < (l2 : Int)) = false := by simp; omega
      go_wp2_with fail
      go_ret
      exact ⟨rfl, hall⟩
end Go.Proofs.YtllkemadaemjeaaGreatDoor
