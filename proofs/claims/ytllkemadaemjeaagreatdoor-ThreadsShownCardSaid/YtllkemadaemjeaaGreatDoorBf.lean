/- CheckBoard answers boardF. -/
import Derived.Test.YtllkemadaemjeaaGreatDoorBd
import Derived.Test.YtllkemadaemjeaaGreatDoorBe
namespace Go.Proofs.YtllkemadaemjeaaGreatDoor
open Go.RowKit

section
variable {b : Board4}
theorem boardF_1 (h1 : pairsF b.pairs ≠ 0) : boardF b = pairsF b.pairs := by rw [boardF, if_pos h1]
theorem boardF_2 (h1 : pairsF b.pairs = 0) (h2 : pairsF b.barred ≠ 0) : boardF b = pairsF b.barred := by rw [boardF, if_neg (by simp [h1]), if_pos h2]
theorem boardF_3 (h1 : pairsF b.pairs = 0) (h2 : pairsF b.barred = 0) (h3 : clash b = true) : boardF b = 13 := by rw [boardF, if_neg (by simp [h1]), if_neg (by simp [h2]), if_pos h3]
theorem boardF_4 (h1 : pairsF b.pairs = 0) (h2 : pairsF b.barred = 0) (h3 : clash b = false) (h4 : 20 < b.heads.length) : boardF b = 2 := by rw [boardF, if_neg (by simp [h1]), if_neg (by simp [h2]), if_neg (by simp [h3]), if_pos h4]
theorem boardF_5 (h1 : pairsF b.pairs = 0) (h2 : pairsF b.barred = 0) (h3 : clash b = false) (h4 : ¬ 20 < b.heads.length) (h5 : riseF none b.heads ≠ 0) : boardF b = riseF none b.heads := by rw [boardF, if_neg (by simp [h1]), if_neg (by simp [h2]), if_neg (by simp [h3]), if_neg h4, if_pos h5]
theorem boardF_6 (h1 : pairsF b.pairs = 0) (h2 : pairsF b.barred = 0) (h3 : clash b = false) (h4 : ¬ 20 < b.heads.length) (h5 : riseF none b.heads = 0) : boardF b = turnsF b.turns := by rw [boardF, if_neg (by simp [h1]), if_neg (by simp [h2]), if_neg (by simp [h3]), if_neg h4, if_neg (by simp [h5])]
end

/-- How a board's four slices lie in memory. -/
structure BoardIs (w : World) (a0 : Option Addr) (l0 : Nat) (a1 : Option Addr) (l1 : Nat) (a2 : Option Addr) (l2 : Nat) (a3 : Option Addr) (l3 : Nat) (b : Board4) : Prop where
  pairs : Sl RPair 2 (fun _ => True) w a0 l0 b.pairs
  barred : Sl RPair 2 (fun _ => True) w a1 l1 b.barred
  heads : Sl RStr 1 (fun _ => True) w a2 l2 b.heads
  turns : Sl RTurn 3 (fun _ => True) w a3 l3 b.turns
  n0 : l0 ≤ 1000000
  n1 : l1 ≤ 1000000
  n2 : l2 ≤ 1000000
  n3 : l3 ≤ 1000000
theorem BoardIs.keep {w w' : World} {a0 : Option Addr} {l0 : Nat} {a1 : Option Addr} {l1 : Nat} {a2 : Option Addr} {l2 : Nat} {a3 : Option Addr} {l3 : Nat} {b : Board4} (h : BoardIs w a0 l0 a1 l1 a2 l2 a3 l3 b) (k : All w w') : BoardIs w' a0 l0 a1 l1 a2 l2 a3 l3 b :=
  ⟨h.pairs.keep RPair.ok k, h.barred.keep RPair.ok k, h.heads.keep RStr.ok k, h.turns.keep RTurn.ok k, h.n0, h.n1, h.n2, h.n3⟩

set_option maxRecDepth 100000 in
set_option maxHeartbeats 6400000 in
theorem checkBoard_any (a0 : Option Addr) (l0 c0 : Nat) (a1 : Option Addr) (l1 c1 : Nat) (a2 : Option Addr) (l2 c2 : Nat) (a3 : Option Addr) (l3 c3 : Nat) (b : Board4) (w : World) (h : BoardIs w a0 l0 a1 l1 a2 l2 a3 l3 b) :
    Calls Tryz.prog 72 #[.agg #[.slice a0 l0 c0, .slice a1 l1 c1, .slice a2 l2 c2, .slice a3 l3 c3]] w fun e w' => e = .returned (.int .i64 (boardF b)) ∧ All w w' := by
  have hk1 : All w (w.alloc (.cells #[.slice a0 l0 c0, .slice a1 l1 c1, .slice a2 l2 c2, .slice a3 l3 c3] 50)) := Kept.alloc _ _ _
  have hblk := heap_at w (.cells #[.slice a0 l0 c0, .slice a1 l1 c1, .slice a2 l2 c2, .slice a3 l3 c3] 50) _ rfl
  have hB : BoardAt w.heap.size (.slice a0 l0 c0) (.slice a1 l1 c1) (.slice a2 l2 c2) (.slice a3 l3 c3) (w.alloc (.cells #[.slice a0 l0 c0, .slice a1 l1 c1, .slice a2 l2 c2, .slice a3 l3 c3] 50)) := ⟨cell_at (i := 0) hblk rfl, cell_at (i := 1) hblk rfl, cell_at (i := 2) hblk rfl, cell_at (i := 3) hblk rfl⟩
  have HI := Lib.hid (h.keep hk1)
  obtain ⟨bb, hbb⟩ : ∃ b, b = w.heap.size := ⟨_, rfl⟩
  have Hbb := Lib.hid hbb
  rw [← hbb] at hB
  have eg : ∀ args w, (callFunc 132 args).run Tryz.prog w = .ok (.enter 132 args) w := enters_of Tryz.func132 (by kernel_rfl) rfl
  have ix0 : ∀ W : World, (Instr.index 185 (.agg #[.slice a0 l0 c0, .slice a1 l1 c1]) (.int .i64 0)).run Tryz.prog W = .ok (.slice a0 l0 c0) W := fun W => by kernel_rfl
  have ix1 : ∀ W : World, (Instr.index 185 (.agg #[.slice a0 l0 c0, .slice a1 l1 c1]) (.int .i64 1)).run Tryz.prog W = .ok (.slice a1 l1 c1) W := fun W => by kernel_rfl
  clear hbb hblk h
  obtain ⟨er, her⟩ : ∃ e, e = boardF b := ⟨_, rfl⟩
  have HER := Lib.hid her
  rw [← her]
  clear her
  go_enter Tryz.func72, Tryz.ntmps72
  obtain ⟨e0, e1, e2, e3⟩ := hB
  go_wp2_with fail
  rw [← Hbb.out]
  have HB := Lib.hid (show BoardAt bb (.slice a0 l0 c0) (.slice a1 l1 c1) (.slice a2 l2 c2) (.slice a3 l3 c3) (w.alloc (.cells #[.slice a0 l0 c0, .slice a1 l1 c1, .slice a2 l2 c2, .slice a3 l3 c3] 50)) from ⟨e0, e1, e2, e3⟩)
  clear Hbb e0 e1 e2 e3
  generalize w.alloc (.cells #[.slice a0 l0 c0, .slice a1 l1 c1, .slice a2 l2 c2, .slice a3 l3 c3] 50) = w1 at *
  go_loopw [12] (fun i wr => ∃ k : Nat, k ≤ 2 ∧ i = .int .i64 k ∧ (1 ≤ k → pairsF b.pairs = 0) ∧ (2 ≤ k → pairsF b.barred = 0) ∧ All w1 wr) (fun i _ => 2 - (intOf i).toNat)
  case atStart => exact ⟨0, by omega, rfl, fun h => absurd h (by omega), fun h => absurd h (by omega), Kept.refl _ _⟩
  case round =>
    obtain ⟨k, hk, rfl, h1, h2, hall⟩ := hrel
    obtain ⟨wo, rfl⟩ : ∃ wo : World, wo = wr := ⟨_, rfl⟩
    have H1 := Lib.hid h1
    have H2 := Lib.hid h2
    clear h1 h2
    have h3 : k = 0 ∨ k = 1 ∨ k = 2 := by omega
    rcases h3 with rfl | rfl | rfl
    · obtain ⟨f, hf⟩ : ∃ f, f = pairsF b.pairs := ⟨_, rfl⟩
      have HF := Lib.hid hf
      clear hf
      go_wp2_with fail
      refine (checkPairs_any a0 l0 c0 b.pairs _ (HI.out.keep hall).pairs HI.out.n0).mono ?_
      rintro e w2 ⟨rfl, hw2⟩
      rw [← HF.out]
      by_cases hf0 : f = 0
      · subst hf0
        go_wp2_with fail
        go_roundw
        case rel => exact ⟨1, by omega, rfl, fun _ => HF.out.symm, fun h => absurd h (by omega), hall.trans hw2⟩
        case measure => simp [intOf]
      · have hne : (f != 0) = true := by simpa using hf0
        have hfin := Lib.hid (show er = f from by rw [HER.out, HF.out]; exact boardF_1 (by rw [← HF.out]; exact hf0))
        clear hf0
        go_wp2_with fail
        go_ret
        exact ⟨ret_int' hfin.out.symm, (hk1.trans hall).trans hw2⟩
    · obtain ⟨f, hf⟩ : ∃ f, f = pairsF b.barred := ⟨_, rfl⟩
      have HF := Lib.hid hf
      clear hf
      go_wp2_with fail
      refine (checkPairs_any a1 l1 c1 b.barred _ (HI.out.keep hall).barred HI.out.n1).mono ?_
      rintro e w2 ⟨rfl, hw2⟩
      rw [← HF.out]
      by_cases hf0 : f = 0
      · subst hf0
        go_wp2_with fail
        go_roundw
        case rel => exact ⟨2, by omega, rfl, fun _ => H1.out (by omega), fun _ => HF.out.symm, hall.trans hw2⟩
        case measure => simp [intOf]
      · have hne : (f != 0) = true := by simpa using hf0
        have hfin := Lib.hid (show er = f from by rw [HER.out, HF.out]; exact boardF_2 (H1.out (by omega)) (by rw [← HF.out]; exact hf0))
        clear hf0
        go_wp2_with fail
        go_ret
        exact ⟨ret_int' hfin.out.symm, (hk1.trans hall).trans hw2⟩
    · have P1 := Lib.hid (H1.out (by omega))
      have P2 := Lib.hid (H2.out (by omega))
      obtain ⟨e0, e1, e2, e3⟩ := HB.out.keep hall
      obtain ⟨cb, hcb⟩ : ∃ c, c = clash b := ⟨_, rfl⟩
      have HCB := Lib.hid hcb
      clear hcb ix0 ix1 H1 H2
      go_wp2_with fail
      refine (containsFuncP_any 132 _ eg (fun q => inP b.barred q.paper q.person) a0 l0 c0 b.pairs _ (HI.out.keep hall).pairs HI.out.n0 (barred_answers (HB.out.keep hall) (HI.out.keep hall).barred HI.out.n1 (pairsF_rises P2.out).2)).mono ?_
      rintro e w2 ⟨rfl, hw2⟩
      rw [show (b.pairs.any fun q => inP b.barred q.paper q.person) = cb from HCB.out.symm]
      have hall2 := hall.trans hw2
      clear e0 e1 e2 e3
      obtain ⟨e0, e1, e2, e3⟩ := HB.out.keep hall2
      cases cb with
      | true =>
        have hfin := Lib.hid (show er = 13 from by rw [HER.out]; exact boardF_3 P1.out P2.out HCB.out.symm)
        go_wp2_with fail
        go_ret
        exact ⟨ret_int' hfin.out.symm, hk1.trans hall2⟩
      | false =>
        by_cases h20 : 20 < l2
        · have hd : decide ((20 : Int) < (l2 : Int)) = true := by simp; omega
          have hfin := Lib.hid (show er = 2 from by rw [HER.out]; exact boardF_4 P1.out P2.out HCB.out.symm (by have := HI.out.heads.len; omega))
          go_wp2_with fail
          go_ret
          exact ⟨ret_int' hfin.out.symm, hk1.trans hall2⟩
        · have hd : decide ((20 : Int) < (l2 : Int)) = false := by simp; omega
          have P4 := Lib.hid (show ¬ 20 < b.heads.length from by have := HI.out.heads.len; omega)
          obtain ⟨f, hf⟩ : ∃ f, f = riseF none b.heads := ⟨_, rfl⟩
          have HF := Lib.hid hf
          clear hf h20
          go_wp2_with fail
          refine (risingFault_any a2 l2 c2 b.heads _ (HI.out.keep hall2).heads HI.out.n2).mono ?_
          rintro e w' ⟨rfl, hh⟩
          subst hh
          rw [← HF.out]
          by_cases hf0 : f = 0
          · subst hf0
            have hfin := Lib.hid (show er = turnsF b.turns from by rw [HER.out]; exact boardF_6 P1.out P2.out HCB.out.symm P4.out HF.out.symm)
            go_wp2_with fail
            refine (turnsFault_any a3 l3 c3 b.turns _ (HI.out.keep hall2).turns HI.out.n3).mono ?_
            rintro e w4 ⟨rfl, hw4⟩
            rw [← hfin.out]
            go_wp2_with fail
            go_ret
            exact ⟨rfl, (hk1.trans hall2).trans hw4⟩
          · have hne : (f != 0) = true := by simpa using hf0
            have hfin := Lib.hid (show er = f from by rw [HER.out, HF.out]; exact boardF_5 P1.out P2.out HCB.out.symm P4.out (by rw [← HF.out]; exact hf0))
            clear hf0
            go_wp2_with fail
            go_ret
            exact ⟨ret_int' hfin.out.symm, hk1.trans hall2⟩
end Go.Proofs.YtllkemadaemjeaaGreatDoor
