/- CheckPairs and PairsFault answer pairsF. -/
import Derived.Test.YtllkemadaemjeaaGreatDoorRb
import Derived.Test.YtllkemadaemjeaaGreatDoorBa
namespace Go.Proofs.YtllkemadaemjeaaGreatDoor
open Go.RowKit

set_option maxRecDepth 100000 in
set_option maxHeartbeats 6400000 in
theorem checkPairs_any (a : Option Addr) (len cap : Nat) (xs : List Pair2) (w : World) (hs : Sl RPair 2 (fun _ => True) w a len xs) (hl : len ≤ 1000000) :
    Calls Tryz.prog 103 #[.slice a len cap] w fun e w' => e = .returned (.int .i64 (pairsF xs)) ∧ All w w' := by
  have Hlen := Lib.hid hs.len
  by_cases hbig : 120000 < len
  · have hfin := Lib.hid (pairsF_large (xs := xs) (by have := Hlen.out; omega))
    have hd : decide ((120000 : Int) < (len : Int)) = true := by simp; omega
    go_enter Tryz.func103, Tryz.ntmps103
    go_wp2_with fail
    go_ret
    exact ⟨ret_int' hfin.out.symm, Kept.refl _ _⟩
  · have hfin := Lib.hid (pairsF_some (xs := xs) (by have := Hlen.out; omega))
    have hd : decide ((120000 : Int) < (len : Int)) = false := by simp; omega
    go_enter Tryz.func103, Tryz.ntmps103
    go_wp2_with fail
    go_loopw [10] (fun i wr => ∃ k : Nat, k ≤ len ∧ i = .int .i64 k ∧ PairsAt xs k ∧ All w wr) (fun i _ => len - (intOf i).toNat)
    case atStart => exact ⟨0, Nat.zero_le _, rfl, PairsAt.zero _, Kept.refl _ _⟩
    case round =>
      obtain ⟨k, hk, rfl, hat, hwr⟩ := hrel
      obtain ⟨wo, rfl⟩ : ∃ wo : World, wo = wr := ⟨_, rfl⟩
      have HA := Lib.hid hat
      clear hat
      by_cases hlt : k < len
      · obtain ⟨b, off, x, ha, -, c0, c1, hx, -, -⟩ := (hs.keep RPair.ok hwr).atPair hlt
        subst ha
        have hz1 := x.h1
        have hz2 := x.h2
        have Hx := Lib.hid hx
        have hblk := heap_at wo (.cells #[.string x.paper, .string x.person] 101) _ rfl
        have e0 := cell_at (i := 0) hblk rfl
        have e1 := cell_at (i := 1) hblk rfl
        have hwa : All w (wo.alloc (.cells #[.string x.paper, .string x.person] 101)) := hwr.then_alloc _
        clear hx hblk
        cases hk1 : isKeyB x.paper
        · go_wp2_with fail
          refine (isKey_any x.paper _ (by omega)).mono ?_
          rintro e w' ⟨rfl, hh⟩
          subst hh
          rw [hk1]
          go_wp2_with fail
          go_ret
          exact ⟨ret_int' (by rw [hfin.out]; exact (HA.out.bad Hx.out (pairF_name hk1) (by decide)).symm), hwa⟩
        · have HK1 := Lib.hid hk1
          cases hk2 : isKeyB x.person
          · go_wp2_with fail
            refine (isKey_any x.paper _ (by omega)).mono ?_
            rintro e w' ⟨rfl, hh⟩
            subst hh
            rw [hk1]
            go_wp2_with fail
            refine (isKey_any x.person _ (by omega)).mono ?_
            rintro e w' ⟨rfl, hh⟩
            subst hh
            rw [hk2]
            go_wp2_with fail
            go_ret
            exact ⟨ret_int' (by rw [hfin.out]; exact (HA.out.bad Hx.out (pairF_name2 HK1.out hk2) (by decide)).symm), hwa⟩
          · have HK2 := Lib.hid hk2
            rcases Nat.eq_zero_or_pos k with hk0 | hk0
            · subst hk0
              have d0 : wo.cell? ⟨b, off, none⟩ = some (.string x.paper) := by simpa using c0
              have d1 : wo.cell? ⟨b, off + 1, none⟩ = some (.string x.person) := by simpa using c1
              have hgd : decide ((0 : Int) < ((0 : Nat) : Int)) = false := by simp
              have HO := Lib.hid (show ordP (xs.take 0).getLast? x = false by simp [ordP])
              go_wp2_with fail
              refine (isKey_any x.paper _ (by omega)).mono ?_
              rintro e w' ⟨rfl, hh⟩
              subst hh
              rw [hk1]
              go_wp2_with fail
              refine (isKey_any x.person _ (by omega)).mono ?_
              rintro e w' ⟨rfl, hh⟩
              subst hh
              rw [hk2]
              go_wp2_with fail
              go_quiet (fail)
              go_wp2_with fail
              go_roundw
              case rel => exact ⟨0 + 1, by omega, by go_num, HA.out.next Hx.out (pairF_ok HK1.out HK2.out HO.out), hwa.then_drewN _⟩
              case measure => simp [intOf]; omega
            · obtain ⟨kp, rfl⟩ : ∃ kp, k = kp + 1 := ⟨k - 1, by omega⟩
              obtain ⟨bq, oq, y, haq, -, p0, p1, hy, -, -⟩ := (hs.keep RPair.ok hwr).atPair (k := kp) (by omega)
              cases haq
              have hw1 := y.h1
              have hw2 := y.h2
              have hlast : (xs.take (kp + 1)).getLast? = some y := last_take hy
              have q0 := (Kept.alloc (fun _ => True) wo (.cells #[.string x.paper, .string x.person] 101)).cell p0 trivial
              have q1 := (Kept.alloc (fun _ => True) wo (.cells #[.string x.paper, .string x.person] 101)).cell p1 trivial
              clear p0 p1 hy
              cases hord : decide (0 ≤ cmpP y.paper y.person x.paper x.person)
              · have HO := Lib.hid (show ordP (xs.take (kp + 1)).getLast? x = false by rw [hlast]; exact hord)
                clear hlast
                go_wp2_with fail
                refine (isKey_any x.paper _ (by omega)).mono ?_
                rintro e w' ⟨rfl, hh⟩
                subst hh
                rw [hk1]
                go_wp2_with fail
                refine (isKey_any x.person _ (by omega)).mono ?_
                rintro e w' ⟨rfl, hh⟩
                subst hh
                rw [hk2]
                go_wp2_with fail
                have f1 : IntKind.i64.wrap (kp : Int) = (kp : Int) := IntWalk.i64_in _ (by omega)
                have f3 : (0 : Int) ≤ (kp : Int) := by omega
                have f4 : (kp : Int) < (len : Int) := by omega
                go_region_held3 (fun w' => w'.cell? ⟨b, off + kp * 2, none⟩ = some (.string y.paper) ∧ w'.cell? ⟨b, off + kp * 2 + 1, none⟩ = some (.string y.person) ∧ w'.cell? ⟨wo.heap.size, 0, none⟩ = some (.string x.paper) ∧ w'.cell? ⟨wo.heap.size, 1, none⟩ = some (.string x.person)) (first | go_keep | exact ⟨by assumption, by assumption, by assumption, by assumption⟩) (first | (go_at_call 151; refine (comparePairs_any _ _ _ _ _).mono ?_; rintro e q ⟨rfl, hq⟩; have hp1 : All (wo.alloc (.cells #[.string x.paper, .string x.person] 101)) q := Kept.trans (by repeat (first | exact Kept.refl _ _ | refine Kept.then_drew ?_ | refine Kept.then_drewN ?_ _ | refine Kept.then_alloc ?_ _)) hq; have a0 := hp1.cell q0 trivial; have a1 := hp1.cell q1 trivial; have a2 := hp1.cell e0 trivial; have a3 := hp1.cell e1 trivial))
                clear f1 f3 f4
                go_wp2_with fail
                go_roundw
                case rel => exact ⟨(kp + 1) + 1, by omega, by go_num, HA.out.next Hx.out (pairF_ok HK1.out HK2.out HO.out), (hwa.trans hp1)⟩
                case measure => simp [intOf]; omega
              · have HO := Lib.hid (show ordP (xs.take (kp + 1)).getLast? x = true by rw [hlast]; exact hord)
                clear hlast
                go_wp2_with fail
                refine (isKey_any x.paper _ (by omega)).mono ?_
                rintro e w' ⟨rfl, hh⟩
                subst hh
                rw [hk1]
                go_wp2_with fail
                refine (isKey_any x.person _ (by omega)).mono ?_
                rintro e w' ⟨rfl, hh⟩
                subst hh
                rw [hk2]
                go_wp2_with fail
                have f1 : IntKind.i64.wrap (kp : Int) = (kp : Int) := IntWalk.i64_in _ (by omega)
                have f3 : (0 : Int) ≤ (kp : Int) := by omega
                have f4 : (kp : Int) < (len : Int) := by omega
                go_region_held3 (fun w' => w'.cell? ⟨b, off + kp * 2, none⟩ = some (.string y.paper) ∧ w'.cell? ⟨b, off + kp * 2 + 1, none⟩ = some (.string y.person) ∧ w'.cell? ⟨wo.heap.size, 0, none⟩ = some (.string x.paper) ∧ w'.cell? ⟨wo.heap.size, 1, none⟩ = some (.string x.person)) (first | go_keep | exact ⟨by assumption, by assumption, by assumption, by assumption⟩) (first | (go_at_call 151; refine (comparePairs_any _ _ _ _ _).mono ?_; rintro e q ⟨rfl, hq⟩; have hp1 : All (wo.alloc (.cells #[.string x.paper, .string x.person] 101)) q := Kept.trans (by repeat (first | exact Kept.refl _ _ | refine Kept.then_drew ?_ | refine Kept.then_drewN ?_ _ | refine Kept.then_alloc ?_ _)) hq; have a0 := hp1.cell q0 trivial; have a1 := hp1.cell q1 trivial; have a2 := hp1.cell e0 trivial; have a3 := hp1.cell e1 trivial))
                clear f1 f3 f4
                go_wp2_with fail
                go_ret
                exact ⟨ret_int' (by rw [hfin.out]; exact (HA.out.bad Hx.out (pairF_order HK1.out HK2.out HO.out) (by decide)).symm), (hwa.trans hp1)⟩
      · have hdk : decide ((k : Int) < (len : Int)) = false := by simp; omega
        go_wp2_with fail
        go_ret
        exact ⟨ret_int' (by rw [hfin.out]; exact (HA.out.ok (by have := Hlen.out; omega)).symm), hwr⟩

set_option maxRecDepth 100000 in
set_option maxHeartbeats 6400000 in
theorem pairsFault_any (a : Option Addr) (len cap : Nat) (xs : List Pair2) (w : World) (hs : Sl RPair 2 (fun _ => True) w a len xs) (hl : len ≤ 1000000) :
    Calls Tryz.prog 14 #[.slice a len cap] w fun e w' => e = .returned (.int .i64 (pairsF xs)) ∧ All w w' := by
  have Hlen := Lib.hid hs.len
  by_cases hbig : 120000 < len
  · have hfin := Lib.hid (pairsF_large (xs := xs) (by have := Hlen.out; omega))
    have hd : decide ((120000 : Int) < (len : Int)) = true := by simp; omega
    go_enter Tryz.func14, Tryz.ntmps14
    go_wp2_with fail
    go_ret
    exact ⟨ret_int' hfin.out.symm, Kept.refl _ _⟩
  · have hfin := Lib.hid (pairsF_some (xs := xs) (by have := Hlen.out; omega))
    have hd : decide ((120000 : Int) < (len : Int)) = false := by simp; omega
    go_enter Tryz.func14, Tryz.ntmps14
    go_wp2_with fail
    go_loopw [10] (fun i wr => ∃ k : Nat, k ≤ len ∧ i = .int .i64 k ∧ PairsAt xs k ∧ All w wr) (fun i _ => len - (intOf i).toNat)
    case atStart => exact ⟨0, Nat.zero_le _, rfl, PairsAt.zero _, Kept.refl _ _⟩
    case round =>
      obtain ⟨k, hk, rfl, hat, hwr⟩ := hrel
      obtain ⟨wo, rfl⟩ : ∃ wo : World, wo = wr := ⟨_, rfl⟩
      have HA := Lib.hid hat
      clear hat
      by_cases hlt : k < len
      · obtain ⟨b, off, x, ha, -, c0, c1, hx, -, -⟩ := (hs.keep RPair.ok hwr).atPair hlt
        subst ha
        have hz1 := x.h1
        have hz2 := x.h2
        have Hx := Lib.hid hx
        have hblk := heap_at wo (.cells #[.string x.paper, .string x.person] 101) _ rfl
        have e0 := cell_at (i := 0) hblk rfl
        have e1 := cell_at (i := 1) hblk rfl
        have hwa : All w (wo.alloc (.cells #[.string x.paper, .string x.person] 101)) := hwr.then_alloc _
        clear hx hblk
        cases hk1 : isKeyB x.paper
        · go_wp2_with fail
          refine (key_any x.paper _ (by omega)).mono ?_
          rintro e v1 ⟨rfl, hv1⟩
          have hwa := hwa.trans hv1
          have e0 := hv1.cell e0 trivial
          have e1 := hv1.cell e1 trivial
          rw [hk1]
          go_wp2_with fail
          go_ret
          exact ⟨ret_int' (by rw [hfin.out]; exact (HA.out.bad Hx.out (pairF_name hk1) (by decide)).symm), hwa⟩
        · have HK1 := Lib.hid hk1
          cases hk2 : isKeyB x.person
          · go_wp2_with fail
            refine (key_any x.paper _ (by omega)).mono ?_
            rintro e v1 ⟨rfl, hv1⟩
            have hwa := hwa.trans hv1
            have e0 := hv1.cell e0 trivial
            have e1 := hv1.cell e1 trivial
            rw [hk1]
            go_wp2_with fail
            refine (key_any x.person _ (by omega)).mono ?_
            rintro e v2 ⟨rfl, hv2⟩
            have hwa := hwa.trans hv2
            have e0 := hv2.cell e0 trivial
            have e1 := hv2.cell e1 trivial
            rw [hk2]
            go_wp2_with fail
            go_ret
            exact ⟨ret_int' (by rw [hfin.out]; exact (HA.out.bad Hx.out (pairF_name2 HK1.out hk2) (by decide)).symm), hwa⟩
          · have HK2 := Lib.hid hk2
            rcases Nat.eq_zero_or_pos k with hk0 | hk0
            · subst hk0
              have d0 : wo.cell? ⟨b, off, none⟩ = some (.string x.paper) := by simpa using c0
              have d1 : wo.cell? ⟨b, off + 1, none⟩ = some (.string x.person) := by simpa using c1
              have hgd : decide ((0 : Int) < ((0 : Nat) : Int)) = false := by simp
              have HO := Lib.hid (show ordP (xs.take 0).getLast? x = false by simp [ordP])
              go_wp2_with fail
              refine (key_any x.paper _ (by omega)).mono ?_
              rintro e v1 ⟨rfl, hv1⟩
              have hwa := hwa.trans hv1
              have e0 := hv1.cell e0 trivial
              have e1 := hv1.cell e1 trivial
              rw [hk1]
              go_wp2_with fail
              refine (key_any x.person _ (by omega)).mono ?_
              rintro e v2 ⟨rfl, hv2⟩
              have hwa := hwa.trans hv2
              have e0 := hv2.cell e0 trivial
              have e1 := hv2.cell e1 trivial
              rw [hk2]
              go_wp2_with fail
              go_quiet (fail)
              go_wp2_with fail
              go_roundw
              case rel => exact ⟨0 + 1, by omega, by go_num, HA.out.next Hx.out (pairF_ok HK1.out HK2.out HO.out), hwa.then_drewN _⟩
              case measure => simp [intOf]; omega
            · obtain ⟨kp, rfl⟩ : ∃ kp, k = kp + 1 := ⟨k - 1, by omega⟩
              obtain ⟨bq, oq, y, haq, -, p0, p1, hy, -, -⟩ := (hs.keep RPair.ok hwr).atPair (k := kp) (by omega)
              cases haq
              have hw1 := y.h1
              have hw2 := y.h2
              have hlast : (xs.take (kp + 1)).getLast? = some y := last_take hy
              have q0 := (Kept.alloc (fun _ => True) wo (.cells #[.string x.paper, .string x.person] 101)).cell p0 trivial
              have q1 := (Kept.alloc (fun _ => True) wo (.cells #[.string x.paper, .string x.person] 101)).cell p1 trivial
              clear p0 p1 hy
              cases hord : decide (0 ≤ cmpP y.paper y.person x.paper x.person)
              · have HO := Lib.hid (show ordP (xs.take (kp + 1)).getLast? x = false by rw [hlast]; exact hord)
                clear hlast
                go_wp2_with fail
                refine (key_any x.paper _ (by omega)).mono ?_
                rintro e v1 ⟨rfl, hv1⟩
                have hwa := hwa.trans hv1
                have e0 := hv1.cell e0 trivial
                have e1 := hv1.cell e1 trivial
                have q0 := hv1.cell q0 trivial
                have q1 := hv1.cell q1 trivial
                rw [hk1]
                go_wp2_with fail
                refine (key_any x.person _ (by omega)).mono ?_
                rintro e v2 ⟨rfl, hv2⟩
                have hwa := hwa.trans hv2
                have e0 := hv2.cell e0 trivial
                have e1 := hv2.cell e1 trivial
                have q0 := hv2.cell q0 trivial
                have q1 := hv2.cell q1 trivial
                rw [hk2]
                go_wp2_with fail
                have f1 : IntKind.i64.wrap (kp : Int) = (kp : Int) := IntWalk.i64_in _ (by omega)
                have f3 : (0 : Int) ≤ (kp : Int) := by omega
                have f4 : (kp : Int) < (len : Int) := by omega
                go_region_held3 (fun w' => w'.cell? ⟨b, off + kp * 2, none⟩ = some (.string y.paper) ∧ w'.cell? ⟨b, off + kp * 2 + 1, none⟩ = some (.string y.person) ∧ w'.cell? ⟨wo.heap.size, 0, none⟩ = some (.string x.paper) ∧ w'.cell? ⟨wo.heap.size, 1, none⟩ = some (.string x.person)) (first | go_keep | exact ⟨by assumption, by assumption, by assumption, by assumption⟩) (first | (go_at_call 61; refine (pairOrder_any _ _ _ _ _ (by omega) (by omega) (by omega) (by omega)).mono ?_; rintro e q ⟨rfl, hq⟩; have hp1 : All v2 q := Kept.trans (by repeat (first | exact Kept.refl _ _ | refine Kept.then_drew ?_ | refine Kept.then_drewN ?_ _ | refine Kept.then_alloc ?_ _)) hq; have a0 := hp1.cell q0 trivial; have a1 := hp1.cell q1 trivial; have a2 := hp1.cell e0 trivial; have a3 := hp1.cell e1 trivial))
                clear f1 f3 f4
                go_wp2_with fail
                go_roundw
                case rel => exact ⟨(kp + 1) + 1, by omega, by go_num, HA.out.next Hx.out (pairF_ok HK1.out HK2.out HO.out), (hwa.trans hp1)⟩
                case measure => simp [intOf]; omega
              · have HO := Lib.hid (show ordP (xs.take (kp + 1)).getLast? x = true by rw [hlast]; exact hord)
                clear hlast
                go_wp2_with fail
                refine (key_any x.paper _ (by omega)).mono ?_
                rintro e v1 ⟨rfl, hv1⟩
                have hwa := hwa.trans hv1
                have e0 := hv1.cell e0 trivial
                have e1 := hv1.cell e1 trivial
                have q0 := hv1.cell q0 trivial
                have q1 := hv1.cell q1 trivial
                rw [hk1]
                go_wp2_with fail
                refine (key_any x.person _ (by omega)).mono ?_
                rintro e v2 ⟨rfl, hv2⟩
                have hwa := hwa.trans hv2
                have e0 := hv2.cell e0 trivial
                have e1 := hv2.cell e1 trivial
                have q0 := hv2.cell q0 trivial
                have q1 := hv2.cell q1 trivial
                rw [hk2]
                go_wp2_with fail
                have f1 : IntKind.i64.wrap (kp : Int) = (kp : Int) := IntWalk.i64_in _ (by omega)
                have f3 : (0 : Int) ≤ (kp : Int) := by omega
                have f4 : (kp : Int) < (len : Int) := by omega
                go_region_held3 (fun w' => w'.cell? ⟨b, off + kp * 2, none⟩ = some (.string y.paper) ∧ w'.cell? ⟨b, off + kp * 2 + 1, none⟩ = some (.string y.person) ∧ w'.cell? ⟨wo.heap.size, 0, none⟩ = some (.string x.paper) ∧ w'.cell? ⟨wo.heap.size, 1, none⟩ = some (.string x.person)) (first | go_keep | exact ⟨by assumption, by assumption, by assumption, by assumption⟩) (first | (go_at_call 61; refine (pairOrder_any _ _ _ _ _ (by omega) (by omega) (by omega) (by omega)).mono ?_; rintro e q ⟨rfl, hq⟩; have hp1 : All v2 q := Kept.trans (by repeat (first | exact Kept.refl _ _ | refine Kept.then_drew ?_ | refine Kept.then_drewN ?_ _ | refine Kept.then_alloc ?_ _)) hq; have a0 := hp1.cell q0 trivial; have a1 := hp1.cell q1 trivial; have a2 := hp1.cell e0 trivial; have a3 := hp1.cell e1 trivial))
                clear f1 f3 f4
                go_wp2_with fail
                go_ret
                exact ⟨ret_int' (by rw [hfin.out]; exact (HA.out.bad Hx.out (pairF_order HK1.out HK2.out HO.out) (by decide)).symm), (hwa.trans hp1)⟩
      · have hdk : decide ((k : Int) < (len : Int)) = false := by simp; omega
        go_wp2_with fail
        go_ret
        exact ⟨ret_int' (by rw [hfin.out]; exact (HA.out.ok (by have := Hlen.out; omega)).symm), hwr⟩
end Go.Proofs.YtllkemadaemjeaaGreatDoor
