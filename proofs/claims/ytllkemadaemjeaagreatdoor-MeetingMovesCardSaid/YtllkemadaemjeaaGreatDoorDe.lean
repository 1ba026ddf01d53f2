/- orderFault and OrderFault. -/
import Derived.Test.YtllkemadaemjeaaGreatDoorDa
import Derived.Test.YtllkemadaemjeaaGreatDoorKb
import Derived.Test.YtllkemadaemjeaaGreatDoorBb
import Derived.Test.YtllkemadaemjeaaGreatDoorBe
namespace Go.Proofs.YtllkemadaemjeaaGreatDoor
open Go.RowKit

theorem orderF_large {ss : List ByteArray} (h : 400 < ss.length) : orderF ss = 2 := by rw [orderF, if_pos h]
theorem orderF_some {ss : List ByteArray} (h : ¬ 400 < ss.length) : orderF ss = orderG [] ss := by rw [orderF, if_neg h]
noncomputable def orderE (ss : List ByteArray) (ps : List Pair2) : Int := if orderF ss ≠ 0 then orderF ss else pairsF ps

set_option maxRecDepth 100000 in
set_option maxHeartbeats 3200000 in
theorem orderFault_any (a : Option Addr) (len cap : Nat) (ss : List ByteArray) (a2 : Option Addr) (l2 c2 : Nat) (ps : List Pair2) (w : World) (hs : Sl RStr 1 (fun _ => True) w a len ss) (hl : len ≤ 1000000) (hp : Sl RPair 2 (fun _ => True) w a2 l2 ps) (hl2 : l2 ≤ 1000000) :
    Calls Tryz.prog 55 #[.slice a len cap, .slice a2 l2 c2] w fun e w' => e = .returned (.int .i64 (orderE ss ps)) ∧ All w w' := by
  have Hlen := Lib.hid hs.len
  by_cases hbig : 400 < len
  · have hfin := Lib.hid (show orderE ss ps = 2 by rw [orderE, orderF_large (by have := Hlen.out; omega), if_pos (by decide)])
    have hd : decide ((400 : Int) < (len : Int)) = true := by simp; omega
    clear hs hp
    go_enter Tryz.func55, Tryz.ntmps55
    go_wp2_with fail
    go_ret
    exact ⟨ret_int' hfin.out.symm, Kept.refl _ _⟩
  · have HSOME := Lib.hid (orderF_some (ss := ss) (by have := Hlen.out; omega))
    have HBAD := Lib.hid (show ∀ e, e ≠ 0 → orderG [] ss = e → orderE ss ps = e from fun e h1 h2 => by rw [orderE, HSOME.out, h2, if_pos h1])
    have HOK := Lib.hid (show orderG [] ss = 0 → orderE ss ps = pairsF ps from fun h2 => by rw [orderE, HSOME.out, h2, if_neg (by simp)])
    have hd : decide ((400 : Int) < (len : Int)) = false := by simp; omega
    have hmm := @run_makeMap Tryz.prog
    have hk0 : All w (w.alloc (.map #[] 0)) := Kept.alloc _ _ _
    have hm0 := MapO.made Tryz.prog 9 w
    obtain ⟨mb, hmb⟩ : ∃ mb, mb = w.heap.size := ⟨_, rfl⟩
    have HMB := Lib.hid hmb
    have HWm : w.heap.size ≤ mb := by omega
    rw [← hmb] at hm0
    replace hs := ((hs.live RStr.ok (by decide)).mono RStr.ok (G := fun k => k ≠ mb) (fun k hk => by have := hk.2; omega)).keep RStr.ok (Kept.alloc _ w (.map #[] 0))
    have HPP := Lib.hid (fun (wx : World) (k : All w wx) => hp.keep RPair.ok k)
    clear hmb hp
    go_enter Tryz.func55, Tryz.ntmps55
    go_wp2_with fail
    simp only [← HMB.out]
    generalize w.alloc (.map #[] 0) = w1 at *
    have Hend := Lib.hid (show ∀ wx, But mb w1 wx → All w wx from fun wx hw => hk0.trans2 hw (fun i hi _ e => by omega))
    go_loopw [14] (fun i wr => ∃ k : Nat, k ≤ len ∧ i = .int .i64 k ∧ OrderAt ss k ∧ ∃ n, n ≤ k ∧ MapO Tryz.prog 9 wr mb n (fun s => memB s (ss.take k)) ∧ But mb w1 wr) (fun i _ => len - (intOf i).toNat)
    case atStart => exact ⟨0, Nat.zero_le _, rfl, OrderAt.zero _, 0, Nat.le_refl _, hm0.congr (fun s => by simp [memB]), Kept.refl _ _⟩
    case round =>
      clear hm0 hmm
      obtain ⟨k, hk, rfl, hat, n, hnk, hmap, hwr⟩ := hrel
      obtain ⟨wo, rfl⟩ : ∃ wo : World, wo = wr := ⟨_, rfl⟩
      have HA := Lib.hid hat
      clear hat
      by_cases hlt : k < len
      · obtain ⟨b, off, y, ha, -, c0, hz, hy, -, htk⟩ := (hs.keep RStr.ok hwr).atStr hlt
        subst ha
        have HY := Lib.hid hy
        have HTK := Lib.hid htk
        clear hy htk
        cases hky : isKeyB y with
        | false =>
          go_wp2_with fail
          refine (isKey_any _ _ (by omega)).mono ?_
          rintro e w' ⟨rfl, hh⟩
          subst hh
          rw [hky]
          go_wp2_with fail
          go_ret
          exact ⟨ret_int' (HBAD.out _ (by decide) (HA.out.name HY.out hky)).symm, Hend.out _ hwr⟩
        | true =>
          have HK := Lib.hid hky
          have l1 := hmap.look Tryz.underlying9 Tryz.underlying142 (Tryz.zeroValue4 wo) y hz
          obtain ⟨w3, hput, hmap3, hb3⟩ := hmap.put Tryz.underlying9 Tryz.underlying142 (by omega) y hz true
          have hw3 : But mb w1 w3 := hwr.trans hb3
          cases hme : memB y (ss.take k) with
          | true =>
            have HM := Lib.hid hme
            rw [hme] at l1
            clear hmap hput hmap3 hb3 hw3
            go_wp2_with fail
            refine (isKey_any _ _ (by omega)).mono ?_
            rintro e w' ⟨rfl, hh⟩
            subst hh
            rw [hky]
            go_wp2_with fail
            go_ret
            exact ⟨ret_int' (HBAD.out _ (by decide) (HA.out.twice HY.out HK.out HM.out)).symm, Hend.out _ hwr⟩
          | false =>
            have HM := Lib.hid hme
            rw [hme] at l1
            have hmap4 : MapO Tryz.prog 9 w3 mb (n + 1) (fun s => memB s (ss.take (k + 1))) := hmap3.congr (fun s => by
              rw [HTK.out]
              by_cases hsy : s = y
              · subst hsy; simp [memB]
              · have hne : ¬ y = s := fun e => hsy e.symm
                simp [memB, hsy, hne])
            clear hmap hmap3 hb3
            go_wp2_with fail
            refine (isKey_any _ _ (by omega)).mono ?_
            rintro e w' ⟨rfl, hh⟩
            subst hh
            rw [hky]
            go_wp2_with fail
            go_roundw
            case rel => exact ⟨k + 1, by omega, by go_num, HA.out.next HY.out HK.out HM.out, n + 1, by omega, hmap4, hw3⟩
            case measure => simp [intOf]; omega
      · have hdk : decide ((k : Int) < (len : Int)) = false := by simp; omega
        have HE := Lib.hid (HOK.out (HA.out.ok (by have := Hlen.out; omega)))
        have hall := Hend.out _ hwr
        go_wp2_with fail
        refine (checkPairs_any a2 l2 c2 ps _ (HPP.out _ hall) hl2).mono ?_
        rintro e w' ⟨rfl, hw⟩
        go_wp2_with fail
        go_ret
        exact ⟨ret_int' HE.out.symm, hall.trans hw⟩

set_option maxRecDepth 100000 in
set_option maxHeartbeats 3200000 in
theorem orderFaultR_any (a : Option Addr) (len cap : Nat) (ss : List ByteArray) (w : World) (hs : Sl RStr 1 (fun _ => True) w a len ss) (hl : len ≤ 1000000) (hcap : len ≤ cap) :
    Calls Tryz.prog 13 #[.slice a len cap] w fun e w' => e = .returned (.int .i64 (orderF ss)) ∧ All w w' := by
  have Hlen := Lib.hid hs.len
  by_cases hbig : 400 < len
  · have hfin := Lib.hid (orderF_large (ss := ss) (by have := Hlen.out; omega))
    have hd : decide ((400 : Int) < (len : Int)) = true := by simp; omega
    go_enter Tryz.func13, Tryz.ntmps13
    go_wp2_with fail
    go_ret
    exact ⟨ret_int' hfin.out.symm, Kept.refl _ _⟩
  · have HSOME := Lib.hid (orderF_some (ss := ss) (by have := Hlen.out; omega))
    have hd : decide ((400 : Int) < (len : Int)) = false := by simp; omega
    have hmx : cap = cap := rfl
    clear hmx
    go_enter Tryz.func13, Tryz.ntmps13
    go_wp2_with fail
    go_loopw [10] (fun i wr => ∃ k : Nat, k ≤ len ∧ i = .int .i64 k ∧ OrderAt ss k ∧ All w wr) (fun i _ => len - (intOf i).toNat)
    case atStart => exact ⟨0, Nat.zero_le _, rfl, OrderAt.zero _, Kept.refl _ _⟩
    case round =>
      obtain ⟨k, hk, rfl, hat, hwr⟩ := hrel
      obtain ⟨wo, rfl⟩ : ∃ wo : World, wo = wr := ⟨_, rfl⟩
      have HA := Lib.hid hat
      clear hat
      by_cases hlt : k < len
      · have hsk := hs.keep RStr.ok hwr
        obtain ⟨b, off, y, ha, -, c0, hz, hy, -, htk⟩ := hsk.atStr hlt
        subst ha
        have HY := Lib.hid hy
        have HSL := Lib.hid (fun (wx : World) (h : All wo wx) => (hsk.keep RStr.ok h).take (k := k) (by omega))
        clear hy htk hs hsk
        cases hky : isKeyB y with
        | false =>
          go_wp2_with fail
          refine (key_any _ _ (by omega)).mono ?_
          rintro e w2 ⟨rfl, hw2⟩
          rw [hky]
          go_wp2_with fail
          go_ret
          exact ⟨ret_int' (by rw [HSOME.out]; exact (HA.out.name HY.out hky).symm), hwr.trans hw2⟩
        | true =>
          have HK := Lib.hid hky
          cases hme : memB y (ss.take k) with
          | true =>
            have HM := Lib.hid hme
            go_wp2_with fail
            refine (key_any _ _ (by omega)).mono ?_
            rintro e w2 ⟨rfl, hw2⟩
            rw [hky]
            go_wp2_with fail
            refine (contains_any _ k cap (ss.take k) y _ (HSL.out _ hw2) (by omega)).mono ?_
            rintro e w3 ⟨rfl, hh⟩
            subst hh
            rw [hme]
            go_wp2_with fail
            go_ret
            exact ⟨ret_int' (by rw [HSOME.out]; exact (HA.out.twice HY.out HK.out HM.out).symm), hwr.trans hw2⟩
          | false =>
            have HM := Lib.hid hme
            go_wp2_with fail
            refine (key_any _ _ (by omega)).mono ?_
            rintro e w2 ⟨rfl, hw2⟩
            rw [hky]
            go_wp2_with fail
            refine (contains_any _ k cap (ss.take k) y _ (HSL.out _ hw2) (by omega)).mono ?_
            rintro e w3 ⟨rfl, hh⟩
            subst hh
            rw [hme]
            go_wp2_with fail
            go_roundw
            case rel => exact ⟨k + 1, by omega, by go_num, HA.out.next HY.out HK.out HM.out, hwr.trans hw2⟩
            case measure => simp [intOf]; omega
      · have hdk : decide ((k : Int) < (len : Int)) = false := by simp; omega
        go_wp2_with fail
        go_ret
        exact ⟨ret_int' (by rw [HSOME.out]; exact (HA.out.ok (by have := Hlen.out; omega)).symm), hwr⟩
end Go.Proofs.YtllkemadaemjeaaGreatDoor
