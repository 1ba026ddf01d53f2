/- BallotsFault answers ballotsF. -/
import Derived.Test.YteanedcfiellkaaDoorPe
namespace Go.Proofs.YteanedcfiellkaaDoor
open Go.RowKit

set_option maxRecDepth 100000 in
set_option maxHeartbeats 3200000 in
theorem ballotsFault_any (an : Option Addr) (ln cn : Nat) (noms : List ByteArray) (ab : Option Addr) (lb cb : Nat) (bs : List Bal) (w : World)
    (hn : Sl RStr 1 (fun _ => True) w an ln noms) (hb : Sl RBal 2 (fun _ => True) w ab lb bs) (hln : ln ≤ 1000000) (hlb : lb ≤ 1000000) (hbr : ∀ x ∈ bs, x.ranks.length ≤ 1000000) (hsm : ∀ x ∈ bs, -2000000000000 ≤ x.many ∧ x.many ≤ 2000000000000) :
    Calls Tryd.prog 16 #[.slice an ln cn, .slice ab lb cb] w fun e w' => e = .returned (.int .i64 (ballotsF noms bs)) ∧ All w w' := by
  have hlen := hb.len
  by_cases hnom : nomF noms = 0
  · have hnb : (nomF noms != 0) = false := by simp [hnom]
    by_cases h300 : 300 < lb
    · have hfin := Lib.hid (ballotsF_large (bs := bs) hnom (by omega))
      have hd : decide ((300 : Int) < (lb : Int)) = true := by simp; omega
      rw [hfin.out]
      clear hlen
      go_enter Tryd.func16, Tryd.ntmps16
      go_wp2_with fail
      refine (NomineesFault_any an ln cn noms _ hn hln).mono ?_
      rintro e w0 ⟨rfl, hw0⟩
      rw [hnom]
      go_wp2
      go_ret
      exact ⟨rfl, hw0⟩
    · have hd : decide ((300 : Int) < (lb : Int)) = false := by simp; omega
      have hnl : ¬ 300 < bs.length := by omega
      have Hnom := Lib.hid hnom
      have Hlen := Lib.hid hlen
      clear hlen hnb
      go_enter Tryd.func16, Tryd.ntmps16
      go_wp2_with fail
      refine (NomineesFault_any an ln cn noms _ hn hln).mono ?_
      rintro e w0 ⟨rfl, hw0⟩
      rw [hnom]
      clear hnom
      go_wp2_with fail
      go_loopw [20] (fun i wr => ∃ k : Nat, k ≤ lb ∧ i = .int .i64 k ∧ BalAt noms bs k ∧ All w wr) (fun i _ => lb - (intOf i).toNat)
      case atStart => exact ⟨0, Nat.zero_le _, rfl, by simp [BalAt], hw0⟩
      case round =>
        obtain ⟨k, hk, rfl, hat, hall⟩ := hrel
        obtain ⟨wo, rfl⟩ : ∃ wo : World, wo = wr := ⟨_, rfl⟩
        by_cases hlt : k < lb
        · obtain ⟨b, off, x, ar, cr, ha, hF, c0, c1, hcr, hr, hx, hm⟩ := (hb.keep RBal.ok hall).atBal hlt
          subst ha
          have hxr := hbr x hm
          have hxm := hsm x hm
          by_cases hout : x.many < 1 ∨ 1000 < x.many
          · have hfin := Lib.hid (ballotsF_bal Hnom.out hnl (hat.arg hx hout) (by decide))
            have hdo : decide (1 ≤ x.many ∧ x.many ≤ 1000) = false := by simp; omega
            clear hout
            go_wp2_with fail
            refine (in_any _ _ _ _).mono ?_
            rintro e w' ⟨rfl, rfl⟩
            rw [hdo]
            go_wp2_with fail
            go_ret
            exact ⟨ret_int' hfin.out.symm, hall.then_alloc _⟩
          · have hdo : decide (1 ≤ x.many ∧ x.many ≤ 1000) = true := by simp; omega
            have hm1 : 1 ≤ x.many := by omega
            have hm2 : x.many ≤ 1000 := by omega
            have Hout := Lib.hid hout
            clear hout
            go_wp2_with fail
            refine (in_any _ _ _ _).mono ?_
            rintro e w' ⟨rfl, rfl⟩
            rw [hdo]
            go_wp2_with fail
            have hnr : Sl RStr 1 (fun _ => True) (wo.alloc (.cells #[.int .i64 x.many, .slice ar x.ranks.length cr] 96)) an ln noms := (hn.keep RStr.ok hall).keep RStr.ok (Kept.alloc _ _ _)
            have hrr : Sl RStr 1 (fun _ => True) (wo.alloc (.cells #[.int .i64 x.many, .slice ar x.ranks.length cr] 96)) ar x.ranks.length x.ranks := hr.keep RStr.ok (Kept.alloc _ _ _)
            have hallr := hall.then_alloc (.cells #[.int .i64 x.many, .slice ar x.ranks.length cr] 96)
            have hblk := heap_at wo (.cells #[.int .i64 x.many, .slice ar x.ranks.length cr] 96) _ rfl
            have d1 := cell_at (i := 1) hblk rfl
            clear hall hr c0 c1
            generalize wo.alloc (.cells #[.int .i64 x.many, .slice ar x.ranks.length cr] 96) = wa at *
            go_loop [8, 9, 31] (fun _ _ c => ∃ j : Nat, j ≤ x.ranks.length ∧ c = .int .i64 j ∧ RankAt noms x.ranks j) (fun _ _ c => x.ranks.length - (intOf c).toNat)
            case atStart => exact ⟨0, Nat.zero_le _, rfl, by simp [RankAt]⟩
            case round =>
              obtain ⟨j, hj, rfl, hrk⟩ := hrel
              by_cases hjl : j < x.ranks.length
              · obtain ⟨br, ofr, y, har, _, hcy, hyz, hy, -, -⟩ := hrr.atStr hjl
                have htk : Sl RStr 1 (fun _ => True) wa ar j (x.ranks.take j) := hrr.take (by omega)
                subst har
                cases hmem : memB y noms with
                | false =>
                  have hfin := Lib.hid (ballotsF_bal Hnom.out hnl (hat.ranks hx Hout.out (hrk.none hy hmem) (by decide)) (by decide))
                  go_wp2_with fail
                  refine (contains_any an ln cn noms y _ hnr hln).mono ?_
                  rintro e w' ⟨rfl, rfl⟩
                  rw [hmem]
                  go_wp2_with fail
                  go_ret
                  exact ⟨ret_int' hfin.out.symm, hallr⟩
                | true =>
                  cases htw : memB y (x.ranks.take j) with
                  | true =>
                    have hfin := Lib.hid (ballotsF_bal Hnom.out hnl (hat.ranks hx Hout.out (hrk.twice hy hmem htw) (by decide)) (by decide))
                    go_wp2_with fail
                    refine (contains_any an ln cn noms y _ hnr hln).mono ?_
                    rintro e w' ⟨rfl, rfl⟩
                    rw [hmem]
                    go_wp2_with fail
                    refine (contains_any _ j cr (x.ranks.take j) y _ htk (by omega)).mono ?_
                    rintro e w' ⟨rfl, rfl⟩
                    rw [htw]
                    go_wp2_with fail
                    go_ret
                    exact ⟨ret_int' hfin.out.symm, hallr⟩
                  | false =>
                    have hnx := hrk.next hy hmem htw
                    go_wp2_with fail
                    refine (contains_any an ln cn noms y _ hnr hln).mono ?_
                    rintro e w' ⟨rfl, rfl⟩
                    rw [hmem]
                    go_wp2_with fail
                    refine (contains_any _ j cr (x.ranks.take j) y _ htk (by omega)).mono ?_
                    rintro e w' ⟨rfl, rfl⟩
                    rw [htw]
                    go_wp2_with fail
                    go_round
                    case rel => exact ⟨j + 1, by omega, by go_num, hnx⟩
                    case measure => simp [intOf]; omega
              · have hdj : decide ((j : Int) < (x.ranks.length : Int)) = false := by simp; omega
                have hnx := hat.next hx Hout.out (hrk.ok (by omega))
                go_wp2_with fail
                go_roundw
                case rel => exact ⟨k + 1, by omega, by go_num, hnx, hallr⟩
                case measure => simp [intOf]; omega
        · have hdk : decide ((k : Int) < (lb : Int)) = false := by simp; omega
          have hfin := ballotsF_sum Hnom.out hnl (hat.ok (by have := Hlen.out; omega))
          have hok : SumOk bs := ⟨by have := Hlen.out; omega, hsm⟩
          by_cases h1000 : 1000 < sumF bs
          · rw [if_pos h1000] at hfin
            have Hfin := Lib.hid hfin
            clear hfin
            go_wp2_with fail
            refine (votes_any ab lb cb bs _ (hb.keep RBal.ok hall) hok).mono ?_
            rintro e w5 ⟨rfl, hw5⟩
            go_wp2_with fail
            go_ret
            exact ⟨ret_int' Hfin.out.symm, hall.trans hw5⟩
          · rw [if_neg h1000] at hfin
            have Hfin := Lib.hid hfin
            clear hfin
            go_wp2_with fail
            refine (votes_any ab lb cb bs _ (hb.keep RBal.ok hall) hok).mono ?_
            rintro e w5 ⟨rfl, hw5⟩
            go_wp2_with fail
            go_ret
            exact ⟨ret_int' Hfin.out.symm, hall.trans hw5⟩
  · have hnb : (nomF noms != 0) = true := by simp [hnom]
    rw [ballotsF_nom hnom]
    clear hlen hnom
    go_enter Tryd.func16, Tryd.ntmps16
    go_wp2_with fail
    refine (NomineesFault_any an ln cn noms _ hn hln).mono ?_
    rintro e w0 ⟨rfl, hw0⟩
    go_wp2
    go_ret
    exact ⟨rfl, hw0⟩
end Go.Proofs.YteanedcfiellkaaDoor
