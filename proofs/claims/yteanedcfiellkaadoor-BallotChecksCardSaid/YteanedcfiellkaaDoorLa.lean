/- The law BallotChecks, walked. -/
import Derived.Test.YteanedcfiellkaaDoorPf
import Derived.Test.YteanedcfiellkaaDoorWb
namespace Go.Proofs.YteanedcfiellkaaDoor
open Go.RowKit

set_option maxRecDepth 100000 in
set_option maxHeartbeats 3200000 in
theorem ballotChecks_walk (a : Option Addr) (len cap : Nat) (w : World) (h : IsRow w a len cap) :
    Calls Tryd.prog 3 #[.slice a len cap] w fun e w' => e = .returned (.bool true) ∧ Below w.heap.size w w' := by
  have hst := h.start
  obtain ⟨σ, hσ⟩ : ∃ σ : St, σ = ⟨w.heap.size, a, len, cap⟩ := ⟨_, rfl⟩
  have hσb : σ.b = w.heap.size := by rw [hσ]
  rw [← hσ] at hst
  have Hσ := Lib.hid hσb
  have hptr : (Value.pointer (some ⟨w.heap.size, 0, none⟩)) = Value.pointer (some ⟨σ.b, 0, none⟩) := by rw [hσb]
  have Hptr := Lib.hid hptr
  have hk0 : Kept (fun k => k ≠ σ.b) w (w.alloc (.cells #[.slice a len cap, .int .i64 0] 25)) := Kept.alloc _ _ _
  clear hσ hσb hptr h
  go_enter Tryd.func3, Tryd.ntmps3
  go_wp2_with fail
  simp only [Hptr.out]
  generalize w.alloc (.cells #[.slice a len cap, .int .i64 0] 25) = w0 at *
  refine (nominees_any σ 0 _ hst (by omega)).mono ?_
  rintro e w1 ⟨v, n1, rfl, ⟨an, ln, cn, noms, rfl, hln, hcn, hnoms⟩, hn1, hn2, hs1, hb1⟩
  have hk1 := hk0.trans hb1
  clear hst hk0
  go_wp2_with fail
  refine (ballots_any σ n1 an ln cn noms _ hs1 (by omega) hln hnoms).mono ?_
  rintro e w2 ⟨v, n2, rfl, ⟨bs, hbs, hsm1, hsm2⟩, hn3, hn4, hs2, hb2⟩
  obtain ⟨ab, cb, hv, hbsl⟩ := hbs.sl RBal.ok (by decide) (G := fun k => k ≠ σ.b) (fun k h => h) (fun k hk => by have := (hbs.lt k hk).1; have := hs1.lt; omega)
  subst hv
  have hnoms2 := hnoms.keep RStr.ok hb2
  have hk2 := hk1.trans hb2
  clear hs1 hb1 hk1 hnoms hbs hb2
  go_wp2_with fail
  have hlt2 := hs2.lt
  refine (pick_any σ n2 _ _ _ [0, 1, 7, 10, 99, 1000, -1, 1001] _ (hs2.keep (Kept.alloc _ _ _)) (by omega) (Sl.lit_ints _ (heap_at _ _ _ rfl) rfl (by omega)) (by simp) (by simp)).mono ?_
  rintro e w3 ⟨v, n3, rfl, ⟨votes, rfl, hvm⟩, hn5, hn6, hs3, hb3⟩
  have hv1 : -1 ≤ votes ∧ votes ≤ 1001 := by simp at hvm; omega
  have hk23 : Kept (fun k => k ≠ σ.b) w2 w3 := (Kept.alloc _ _ _).trans hb3
  have hnoms3 := hnoms2.keep RStr.ok hk23
  have hbsl3 := hbsl.keep RBal.ok hk23
  have hk3 := hk2.trans hk23
  clear hs2 hnoms2 hbsl hk2 hk23 hb3 hvm hlt2
  go_wp2_with fail
  refine (seats_any σ n3 _ hs3 (by omega)).mono ?_
  rintro e w4 ⟨v, n4, rfl, ⟨seats, rfl, hst1, hst2⟩, hn7, hn8, hs4, hb4⟩
  have hnoms4 := (hnoms3.keep RStr.ok hb4).mono RStr.ok (G := fun _ => True) (fun _ _ => trivial)
  have hbsl4 := (hbsl3.keep RBal.ok hb4).mono RBal.ok (G := fun _ => True) (fun _ _ => trivial)
  have hk4 := hk3.trans hb4
  clear hs3 hs4 hnoms3 hbsl3 hk3 hb4
  have hbr : ∀ x ∈ bs, x.ranks.length ≤ 1000000 := fun x hx => by have := (hsm2 x hx).2.2; omega
  have hsm : ∀ x ∈ bs, -2000000000000 ≤ x.many ∧ x.many ≤ 2000000000000 := fun x hx => ⟨(hsm2 x hx).1, (hsm2 x hx).2.1⟩
  have hC := fun (wx : World) (hw : All w4 wx) => checkBallots_any an ln cn noms ab bs.length cb bs wx (hnoms4.keep RStr.ok hw) (hbsl4.keep RBal.ok hw) (by omega) (by omega) hbr
  have hR := fun (wx : World) (hw : All w4 wx) => ballotsFault_any an ln cn noms ab bs.length cb bs wx (hnoms4.keep RStr.ok hw) (hbsl4.keep RBal.ok hw) (by omega) (by omega) hbr hsm
  have HC := Lib.hid hC
  have HR := Lib.hid hR
  clear hC hR hsm1 hsm2 hnoms4 hbsl4 hbr hsm
  have hend : ∀ wx, All w4 wx → Below w.heap.size w wx := fun wx hw => (hk4.trans (Kept.all hw)).below (Nat.le_refl _) (fun k hk => by have := Hσ.out; omega)
  have Hend := Lib.hid hend
  have hne : (ballotsF noms bs != ballotsF noms bs) = false := by simp
  clear hend hk4
  by_cases h1 : votes < 0 ∨ 1000 < votes ∨ seats < 1 ∨ 3 < seats
  · go_wp2_with fail
    refine (quota_no votes seats _ h1).mono ?_
    rintro e w' ⟨rfl, rfl⟩
    go_wp2_with fail
    refine (HC.out _ (Kept.refl _ _)).mono ?_
    rintro e w5 ⟨rfl, hw5⟩
    go_wp2_with fail
    refine (HR.out _ hw5).mono ?_
    rintro e w6 ⟨rfl, hw6⟩
    have hfin := Lib.hid (Hend.out _ (hw5.trans hw6))
    clear HC HR Hend hw5 hw6
    have key : votes < 0 ∨ (¬ votes < 0 ∧ 1000 < votes) ∨ (¬ votes < 0 ∧ ¬ 1000 < votes ∧ seats < 1) ∨ (¬ votes < 0 ∧ ¬ 1000 < votes ∧ ¬ seats < 1 ∧ 3 < seats) := by omega
    rcases key with k1 | ⟨k1, k2⟩ | ⟨k1, k2, k3⟩ | ⟨k1, k2, k3, k4⟩
    · have d1 : decide (votes < 0) = true := by simpa using k1
      go_wp2_with fail
      refine (printed_any _).mono ?_
      rintro e w' ⟨rfl, rfl⟩
      go_wp2_with fail
      go_ret
      exact ⟨rfl, hfin.out⟩
    · have d1 : decide (votes < 0) = false := by simpa using k1
      have d2 : decide (1000 < votes) = true := by simpa using k2
      go_wp2_with fail
      refine (printed_any _).mono ?_
      rintro e w' ⟨rfl, rfl⟩
      go_wp2_with fail
      go_ret
      exact ⟨rfl, hfin.out⟩
    · have d1 : decide (votes < 0) = false := by simpa using k1
      have d2 : decide (1000 < votes) = false := by simpa using k2
      have d3 : decide (seats < 1) = true := by simpa using k3
      go_wp2_with fail
      refine (printed_any _).mono ?_
      rintro e w' ⟨rfl, rfl⟩
      go_wp2_with fail
      go_ret
      exact ⟨rfl, hfin.out⟩
    · have d1 : decide (votes < 0) = false := by simpa using k1
      have d2 : decide (1000 < votes) = false := by simpa using k2
      have d3 : decide (seats < 1) = false := by simpa using k3
      have d4 : decide (3 < seats) = true := by simpa using k4
      go_wp2_with fail
      refine (printed_any _).mono ?_
      rintro e w' ⟨rfl, rfl⟩
      go_wp2_with fail
      go_ret
      exact ⟨rfl, hfin.out⟩
  · have k1 : 0 ≤ votes := by omega
    have k2 : votes ≤ 1000 := by omega
    have k3 : 1 ≤ seats := by omega
    have k4 : seats ≤ 3 := by omega
    have d1 : decide (votes < 0) = false := by simp; omega
    have d2 : decide (1000 < votes) = false := by simp; omega
    have d3 : decide (seats < 1) = false := by simp; omega
    have d4 : decide (3 < seats) = false := by simp; omega
    clear h1
    go_wp2_with fail
    refine (quota_yes votes seats _ k1 k2 k3 k4).mono ?_
    rintro e w' ⟨rfl, rfl⟩
    go_wp2_with fail
    refine (HC.out _ (Kept.refl _ _)).mono ?_
    rintro e w5 ⟨rfl, hw5⟩
    go_wp2_with fail
    refine (HR.out _ hw5).mono ?_
    rintro e w6 ⟨rfl, hw6⟩
    have hfin := Lib.hid (Hend.out _ (hw5.trans hw6))
    clear HC HR Hend hw5 hw6
    go_wp2_with fail
    refine (quotaOf_any votes seats _ k1 k2 k3 k4).mono ?_
    rintro e w' ⟨rfl, rfl⟩
    have hq : (votes / (seats + 1) + 1 == votes / (seats + 1) + 1) = true := by simp
    go_wp2_with fail
    refine (printed_any _).mono ?_
    rintro e w' ⟨rfl, rfl⟩
    go_wp2_with fail
    go_ret
    exact ⟨rfl, hfin.out⟩
end Go.Proofs.YteanedcfiellkaaDoor
