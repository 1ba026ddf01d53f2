/- OpenAt, MayOf and momentFault, with what lay kept. -/
import Derived.Test.YtllkemadaemjeaaGreatDoorBj
import Derived.Test.YtllkemadaemjeaaGreatDoorBh
import Derived.Test.YtllkemadaemjeaaGreatDoorEq
namespace Go.Proofs.YtllkemadaemjeaaGreatDoor
open Go.RowKit

theorem openAt_any (v0 v1 v2 : Value) (a3 : Option Addr) (l3 c3 : Nat) (xs : List Turn3) (p : ByteArray) (n : Int) (w : World) (hs : Sl RTurn 3 (fun _ => True) w a3 l3 xs) (hl : l3 ≤ 1000000) (o0 : v0.oneCell' = true) (o1 : v1.oneCell' = true) (o2 : v2.oneCell' = true) :
    Calls Tryz.prog 167 #[.agg #[v0, v1, v2, .slice a3 l3 c3], .string p, .int .i64 n] w fun e w' => e = .returned (.bool (openAt xs p n)) ∧ All w w' := by
  refine ((callsIn_wide (n := 6)).1 (openAt_in Fence.wide 6 trivial trivial trivial rfl (by omega) v0 v1 v2 a3 l3 c3 xs p n w hs hl o0 o1 o2)).mono ?_
  rintro e w' ⟨rfl, hB⟩
  exact ⟨rfl, Kept.of_below hB⟩

set_option maxRecDepth 100000 in
set_option maxHeartbeats 3200000 in
theorem mayOf_any (a0 : Option Addr) (l0 c0 : Nat) (a1 : Option Addr) (l1 c1 : Nat) (a2 : Option Addr) (l2 c2 : Nat) (a3 : Option Addr) (l3 c3 : Nat) (b : Board4) (p q : ByteArray) (n : Int) (w : World) (h : BoardIs w a0 l0 a1 l1 a2 l2 a3 l3 b) :
    Calls Tryz.prog 131 #[.agg #[.slice a0 l0 c0, .slice a1 l1 c1, .slice a2 l2 c2, .slice a3 l3 c3], .agg #[.string p, .string q], .int .i64 n] w fun e w' => e = .returned (.bool (mayB b p q n)) ∧ All w w' := by
  have hk1 : All w (w.alloc (.cells #[.slice a0 l0 c0, .slice a1 l1 c1, .slice a2 l2 c2, .slice a3 l3 c3] 50)) := Kept.alloc _ _ _
  have hblk := heap_at w (.cells #[.slice a0 l0 c0, .slice a1 l1 c1, .slice a2 l2 c2, .slice a3 l3 c3] 50) _ rfl
  have hB0 : BoardAt w.heap.size (.slice a0 l0 c0) (.slice a1 l1 c1) (.slice a2 l2 c2) (.slice a3 l3 c3) (w.alloc (.cells #[.slice a0 l0 c0, .slice a1 l1 c1, .slice a2 l2 c2, .slice a3 l3 c3] 50)) := ⟨cell_at (i := 0) hblk rfl, cell_at (i := 1) hblk rfl, cell_at (i := 2) hblk rfl, cell_at (i := 3) hblk rfl⟩
  have Hsz := Lib.hid (show w.heap.size + 1 = (w.alloc (.cells #[.slice a0 l0 c0, .slice a1 l1 c1, .slice a2 l2 c2, .slice a3 l3 c3] 50)).heap.size by simp)
  obtain ⟨bb, hbb⟩ : ∃ b, b = w.heap.size := ⟨_, rfl⟩
  have Hbb := Lib.hid hbb
  rw [← hbb] at hB0
  have HI0 := Lib.hid (h.keep hk1)
  have hbl : bb < (w.alloc (.cells #[.slice a0 l0 c0, .slice a1 l1 c1, .slice a2 l2 c2, .slice a3 l3 c3] 50)).heap.size := lt_of_cell hB0.1
  obtain ⟨x0, x1, x2, x3⟩ := hB0.keep (Kept.alloc (fun _ => True) _ (.cells #[.string p, .string q] 101))
  clear hbb hblk h
  have hpb := heap_at (w.alloc (.cells #[.slice a0 l0 c0, .slice a1 l1 c1, .slice a2 l2 c2, .slice a3 l3 c3] 50)) (.cells #[.string p, .string q] 101) _ rfl
  have q0 := cell_at (i := 0) hpb rfl
  have q1 := cell_at (i := 1) hpb rfl
  clear hpb
  go_enter Tryz.func131, Tryz.ntmps131
  go_wp2_with fail
  simp only [Hsz.out]
  simp only [← Hbb.out]
  clear Hsz Hbb hbl
  generalize w.alloc (.cells #[.slice a0 l0 c0, .slice a1 l1 c1, .slice a2 l2 c2, .slice a3 l3 c3] 50) = w0 at *
  have hk2 : All w0 (w0.alloc (.cells #[.string p, .string q] 101)) := Kept.alloc _ _ _
  have HB := Lib.hid (hB0.keep hk2)
  have HI := Lib.hid (HI0.out.keep hk2)
  obtain ⟨tb, htb⟩ : ∃ b, b = w0.heap.size := ⟨_, rfl⟩
  rw [← htb] at q0 q1 ⊢
  have HQ := Lib.hid (fun (wx : World) (k : All (w0.alloc (.cells #[.string p, .string q] 101)) wx) => And.intro (k.cell q0 trivial) (k.cell q1 trivial))
  have hkk := hk1.trans hk2
  clear htb q0 q1 hB0 HI0 hk1 hk2 x0 x1 x2 x3
  generalize w0.alloc (.cells #[.string p, .string q] 101) = w1 at *
  refine (openAt_any _ _ _ a3 l3 c3 b.turns p n _ HI.out.turns HI.out.n3 rfl rfl rfl).mono ?_
  rintro e w2 ⟨rfl, hw2⟩
  obtain ⟨io, hio⟩ : ∃ x, x = openAt b.turns p n := ⟨_, rfl⟩
  obtain ⟨ib, hib⟩ : ∃ x, x = inP b.barred p q := ⟨_, rfl⟩
  obtain ⟨ih, hih⟩ : ∃ x, x = memB q b.heads := ⟨_, rfl⟩
  obtain ⟨ip, hip⟩ : ∃ x, x = inP b.pairs p q := ⟨_, rfl⟩
  have HM := Lib.hid (show mayB b p q n = (io && !ib && (ih || ip)) from by rw [mayB, hio, hib, hih, hip])
  have HIB := Lib.hid hib
  have HIH := Lib.hid hih
  have HIP := Lib.hid hip
  rw [← hio]
  clear hio hib hih hip
  obtain ⟨e0, e1, e2, e3⟩ := HB.out.keep hw2
  obtain ⟨q0, q1⟩ := HQ.out _ hw2
  cases io with
  | false =>
    go_wp2_with fail
    go_ret
    exact ⟨by rw [HM.out]; rfl, hkk.trans hw2⟩
  | true =>
    go_wp2_with fail
    refine (containsP_any a1 l1 c1 b.barred p q _ (HI.out.keep hw2).barred HI.out.n1).mono ?_
    rintro e w3 ⟨rfl, hw3⟩
    rw [← HIB.out]
    have hw13 := hw2.trans hw3
    clear e0 e1 e2 e3 q0 q1
    obtain ⟨e0, e1, e2, e3⟩ := HB.out.keep hw13
    obtain ⟨q0, q1⟩ := HQ.out _ hw13
    cases ib with
    | true =>
      go_wp2_with fail
      go_ret
      exact ⟨by rw [HM.out]; rfl, hkk.trans hw13⟩
    | false =>
      go_wp2_with fail
      refine (contains_any a2 l2 c2 b.heads q _ (HI.out.keep hw13).heads HI.out.n2).mono ?_
      rintro e w' ⟨rfl, hh⟩
      subst hh
      rw [← HIH.out]
      cases ih with
      | true =>
        go_wp2_with fail
        go_ret
        exact ⟨by rw [HM.out]; rfl, hkk.trans hw13⟩
      | false =>
        go_wp2_with fail
        refine (containsP_any a0 l0 c0 b.pairs p q _ (HI.out.keep hw13).pairs HI.out.n0).mono ?_
        rintro e w4 ⟨rfl, hw4⟩
        rw [← HIP.out]
        go_wp2_with fail
        go_ret
        exact ⟨by rw [HM.out]; rfl, (hkk.trans hw13).trans hw4⟩
end Go.Proofs.YtllkemadaemjeaaGreatDoor
