/- creditsFault answers creditsF. -/
import Derived.Test.YtbpbhpmkganefaaGreatDoorGe
import Derived.Deep.DrawnRows
import Derived.StillTailTactics
namespace Go.Proofs.YtbpbhpmkganefaaGreatDoor
open Go.RowKit
attribute [local go_sem ↓] Go.wp_at_zero Go.wp_at_succ

set_option maxRecDepth 100000 in
set_option maxHeartbeats 3200000 in
theorem creditsFault_any (a : Option Addr) (len cap : Nat) (cs : List Cred) (w : World) (hs : Sl RCred 2 (fun _ => True) w a len cs) (hl : len ≤ 1000) (hcap : len ≤ cap) (hg : Glob w) :
    Calls Tryz.prog 80 #[.slice a len cap] w fun e w' => e = .returned (.int .i64 (creditsF cs)) ∧ All w w' := by
  have hlen := hs.len
  by_cases h0 : len = 0
  · subst h0
    have hfin := Lib.hid (creditsF_none hlen)
    rw [hfin.out]
    clear hlen
    go_enter Tryz.func80, Tryz.ntmps80
    go_wp2_with fail
    go_ret
    exact ⟨rfl, Kept.refl _ _⟩
  · have d0 : ((len : Int) == 0) = false := by simp; omega
    by_cases h20 : 20 < len
    · have hfin := Lib.hid (creditsF_large (cs := cs) (by omega))
      have d1 : decide ((20 : Int) < (len : Int)) = true := by simp; omega
      rw [hfin.out]
      clear hlen h0
      go_enter Tryz.func80, Tryz.ntmps80
      go_wp2_with fail
      go_ret
      exact ⟨rfl, Kept.refl _ _⟩
    · have d1 : decide ((20 : Int) < (len : Int)) = false := by simp; omega
      rw [creditsF_some (cs := cs) (by omega) (by omega)]
      have Hlen := Lib.hid hlen
      clear hlen
      go_enter Tryz.func80, Tryz.ntmps80
      go_wp2_with fail
      go_loopw [13] (fun i wr => ∃ j : Nat, j ≤ len ∧ i = .int .i64 j ∧ CredAt cs j ∧ All w wr) (fun i _ => len - (intOf i).toNat)
      case atStart => exact ⟨0, Nat.zero_le _, rfl, CredAt.zero _, Kept.refl _ _⟩
      case round =>
        obtain ⟨j, hj, rfl, hat, hall⟩ := hrel
        obtain ⟨wo, rfl⟩ : ∃ wo : World, wo = wr := ⟨_, rfl⟩
        by_cases hlt : j < len
        · obtain ⟨b, off, y, ha, -, c0, c1, hz0, hz1, hy, -, -⟩ := (hs.keep RCred.ok hall).atCred hlt
          have htk : Sl RCred 2 (fun _ => True) wo a j (cs.take j) := (hs.keep RCred.ok hall).take (by omega)
          subst ha
          have HA := Lib.hid hat
          have Hy := Lib.hid hy
          clear hat hy hs
          have hwa := hall.then_alloc (.cells #[.string y.key, .string y.name] 61)
          have hblk := heap_at wo (.cells #[.string y.key, .string y.name] 61) _ rfl
          have htk' := htk.keep RCred.ok (Kept.alloc (fun _ => True) wo (.cells #[.string y.key, .string y.name] 61))
          have e0 := cell_at (i := 0) hblk rfl
          have e1 := cell_at (i := 1) hblk rfl
          cases h1 : isKeyB y.key with
          | false =>
            have hfin := Lib.hid (HA.out.name Hy.out h1)
            go_wp2_with fail
            refine (isKey_any y.key _ (by omega)).mono ?_
            rintro e w' ⟨rfl, rfl⟩
            rw [h1]
            go_wp2_with fail
            go_ret
            exact ⟨ret_int' hfin.out.symm, hwa⟩
          | true =>
            have hjc1 : (0 : Int) ≤ (j : Int) := by omega
            have hjc2 : (j : Int) ≤ (cap : Int) := by omega
            cases h2 : (cs.take j).any (hasKey y.key) with
            | true =>
              have hfin := Lib.hid (HA.out.twice Hy.out h1 h2)
              have hge := findG_nonneg (k := 0) h2
              clear h2
              go_wp2_with fail
              refine (isKey_any y.key _ (by omega)).mono ?_
              rintro e w' ⟨rfl, rfl⟩
              rw [h1]
              go_wp2_with fail
              go_region_held3 (fun w' => w'.cell? ⟨wo.heap.size, 0, none⟩ = some (.string y.key)) (go_keep) ((go_at_call 107; refine (credit_any _ j cap (cs.take j) y.key _ (htk'.keep RCred.ok (by repeat (first | exact Kept.refl _ _ | refine Kept.then_drew ?_ | refine Kept.then_alloc ?_ _))) (by omega)).mono ?_; rintro e w2 ⟨rfl, hw2⟩; have e2 : w2.cell? ⟨wo.heap.size, 0, none⟩ = some (.string y.key) := hw2.cell (Kept.cell (F := fun _ => True) (by repeat (first | exact Kept.refl _ _ | refine Kept.then_drew ?_ | refine Kept.then_alloc ?_ _)) e0 trivial) trivial; have e3 : w2.cell? ⟨wo.heap.size, 1, none⟩ = some (.string y.name) := hw2.cell (Kept.cell (F := fun _ => True) (by repeat (first | exact Kept.refl _ _ | refine Kept.then_drew ?_ | refine Kept.then_alloc ?_ _)) e1 trivial) trivial; have hw3 : All w w2 := hwa.trans (Kept.trans (by repeat (first | exact Kept.refl _ _ | refine Kept.then_drew ?_ | refine Kept.then_alloc ?_ _)) hw2)))
              clear htk' htk hblk hwa
              go_wp2_with fail
              go_ret
              exact ⟨ret_int' hfin.out.symm, hw3⟩
            | false =>
              have hge := findG_neg (k := 0) h2
              have H2 := Lib.hid h2
              have HGE := Lib.hid hge
              clear h2 hge
              cases h3 : lineB y.name 100 with
              | false =>
                have hfin := Lib.hid (HA.out.form Hy.out h1 H2.out h3)
                go_wp2_with fail
                refine (isKey_any y.key _ (by omega)).mono ?_
                rintro e w' ⟨rfl, rfl⟩
                rw [h1]
                go_wp2_with fail
                go_region_held3 (fun w' => w'.cell? ⟨wo.heap.size, 0, none⟩ = some (.string y.key)) (go_keep) ((go_at_call 107; refine (credit_any _ j cap (cs.take j) y.key _ (htk'.keep RCred.ok (by repeat (first | exact Kept.refl _ _ | refine Kept.then_drew ?_ | refine Kept.then_alloc ?_ _))) (by omega)).mono ?_; rintro e w2 ⟨rfl, hw2⟩; have e2 : w2.cell? ⟨wo.heap.size, 0, none⟩ = some (.string y.key) := hw2.cell (Kept.cell (F := fun _ => True) (by repeat (first | exact Kept.refl _ _ | refine Kept.then_drew ?_ | refine Kept.then_alloc ?_ _)) e0 trivial) trivial; have e3 : w2.cell? ⟨wo.heap.size, 1, none⟩ = some (.string y.name) := hw2.cell (Kept.cell (F := fun _ => True) (by repeat (first | exact Kept.refl _ _ | refine Kept.then_drew ?_ | refine Kept.then_alloc ?_ _)) e1 trivial) trivial; have hw3 : All w w2 := hwa.trans (Kept.trans (by repeat (first | exact Kept.refl _ _ | refine Kept.then_drew ?_ | refine Kept.then_alloc ?_ _)) hw2)))
                clear htk' htk hblk hwa
                rw [HGE.out]
                go_wp2_with fail
                refine (isLine_any y.name 100 _ hz1 (hg.keep hw3)).mono ?_
                rintro e w4 ⟨rfl, hw4⟩
                rw [h3]
                go_wp2_with fail
                go_ret
                exact ⟨ret_int' hfin.out.symm, hw3.trans hw4⟩
              | true =>
                have hnx := Lib.hid (HA.out.next Hy.out h1 H2.out h3)
                go_wp2_with fail
                refine (isKey_any y.key _ (by omega)).mono ?_
                rintro e w' ⟨rfl, rfl⟩
                rw [h1]
                go_wp2_with fail
                go_region_held3 (fun w' => w'.cell? ⟨wo.heap.size, 0, none⟩ = some (.string y.key)) (go_keep) ((go_at_call 107; refine (credit_any _ j cap (cs.take j) y.key _ (htk'.keep RCred.ok (by repeat (first | exact Kept.refl _ _ | refine Kept.then_drew ?_ | refine Kept.then_alloc ?_ _))) (by omega)).mono ?_; rintro e w2 ⟨rfl, hw2⟩; have e2 : w2.cell? ⟨wo.heap.size, 0, none⟩ = some (.string y.key) := hw2.cell (Kept.cell (F := fun _ => True) (by repeat (first | exact Kept.refl _ _ | refine Kept.then_drew ?_ | refine Kept.then_alloc ?_ _)) e0 trivial) trivial; have e3 : w2.cell? ⟨wo.heap.size, 1, none⟩ = some (.string y.name) := hw2.cell (Kept.cell (F := fun _ => True) (by repeat (first | exact Kept.refl _ _ | refine Kept.then_drew ?_ | refine Kept.then_alloc ?_ _)) e1 trivial) trivial; have hw3 : All w w2 := hwa.trans (Kept.trans (by repeat (first | exact Kept.refl _ _ | refine Kept.then_drew ?_ | refine Kept.then_alloc ?_ _)) hw2)))
                clear htk' htk hblk hwa
                rw [HGE.out]
                go_wp2_with fail
                refine (isLine_any y.name 100 _ hz1 (hg.keep hw3)).mono ?_
                rintro e w4 ⟨rfl, hw4⟩
                rw [h3]
                go_wp2_with fail
                go_roundw
                case rel => exact ⟨j + 1, by omega, by go_num, hnx.out, hw3.trans hw4⟩
                case measure => simp [intOf]; omega
        · have hd : decide ((j : Int) < (len : Int)) = false := by simp; omega
          have hfin := Lib.hid (hat.ok (by have := Hlen.out; omega))
          go_wp2_with fail
          go_ret
          exact ⟨ret_int' hfin.out.symm, hall⟩
end Go.Proofs.YtbpbhpmkganefaaGreatDoor
