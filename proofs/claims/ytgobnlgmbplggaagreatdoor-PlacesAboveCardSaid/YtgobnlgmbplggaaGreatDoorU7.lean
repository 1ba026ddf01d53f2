/- WorldFault. -/
import Derived.Test.YtgobnlgmbplggaaGreatDoorU5
import Derived.Test.YtgobnlgmbplggaaGreatDoorP0
namespace Go.Proofs.YtgobnlgmbplggaaGreatDoor
open Go.RowKit

theorem worldF_wb {s : Wld} (h : placesF s.places = 0) (h2 : peopleF s.places s.people = 0) : worldF s = wbF s.people s.works s.bonds := by rw [worldF, h, if_neg (by decide), h2, if_neg (by decide)]; rfl
set_option maxRecDepth 100000 in
set_option maxHeartbeats 12800000 in
theorem worldFault_any (a0 : Option Addr) (l0 c0 : Nat) (a1 : Option Addr) (l1 c1 : Nat) (a2 : Option Addr) (l2 c2 : Nat) (a3 : Option Addr) (l3 c3 : Nat) (s : Wld) (w : World) (hp : Sl RPlc 2 (fun _ => True) w a0 l0 s.places) (hl0 : l0 ≤ 100000) (hs : Sl RPer 5 (fun _ => True) w a1 l1 s.people) (hl1 : l1 ≤ 100000)
    (hw : Sl RWrk 2 (fun _ => True) w a2 l2 s.works) (hl2 : l2 ≤ 100000) (hb : Sl RBnd 2 (fun _ => True) w a3 l3 s.bonds) (hl3 : l3 ≤ 100000) (hg : Glob w) :
    Calls Tryz.prog 16 #[.agg #[.slice a0 l0 c0, .slice a1 l1 c1, .slice a2 l2 c2, .slice a3 l3 c3]] w fun e w' => e = .returned (.int .i64 (worldF s)) ∧ All w w' := by
  have HLEN := Lib.hid hs.len
  have hb0 := heap_at w (.cells #[.slice a0 l0 c0, .slice a1 l1 c1, .slice a2 l2 c2, .slice a3 l3 c3] 31) _ rfl
  obtain ⟨wb, hwb⟩ : ∃ z, z = w.heap.size := ⟨_, rfl⟩
  have HWB := Lib.hid hwb
  rw [← hwb] at hb0
  obtain ⟨w1, hw1⟩ : ∃ z, z = w.alloc (.cells #[.slice a0 l0 c0, .slice a1 l1 c1, .slice a2 l2 c2, .slice a3 l3 c3] 31) := ⟨_, rfl⟩
  have HW1 := Lib.hid hw1
  have HK0 := Lib.hid (show All w w1 by rw [hw1]; exact Kept.alloc _ _ _)
  rw [← hw1] at hb0
  have HC := Lib.hid (fun (wx : World) (k : All w1 wx) => k.heap hb0 trivial)
  have HP := Lib.hid (fun (wx : World) (k : All w1 wx) => hp.keep RPlc.ok (HK0.out.trans k))
  have HS := Lib.hid (fun (wx : World) (k : All w1 wx) => hs.keep RPer.ok (HK0.out.trans k))
  have HG := Lib.hid (fun (wx : World) (k : All w1 wx) => hg.keep (HK0.out.trans k))
  have HPF := Lib.hid (fun (wx : World) (k : All w1 wx) => placesFaultR_any a0 l0 c0 s.places wx (HP.out _ k) hl0)
  have HPA := Lib.hid (fun (t : ByteArray) (wx : World) (k : All w1 wx) => personAt_any a0 l0 c0 a1 l1 c1 a2 l2 c2 a3 l3 c3 s.people t wx (HS.out _ k) (by omega))
  have HWF := Lib.hid (fun (wx : World) (k : All w1 wx) => worksFaultR_any a0 l0 c0 a1 l1 c1 a2 l2 c2 a3 l3 c3 s.people s.works s.bonds wx (HS.out _ k) hl1 (hw.keep RWrk.ok (HK0.out.trans k)) hl2 (hb.keep RBnd.ok (HK0.out.trans k)) hl3)
  obtain ⟨zp, hzp⟩ : ∃ z, z = placesF s.places := ⟨_, rfl⟩
  have HZP := Lib.hid hzp
  rw [← hzp] at HPF
  have hall : All w1 w1 := Kept.refl _ _
  clear hp hs hw hb hg hwb hw1 hb0 hzp
  have e0 := cell_at (i := 0) (HC.out _ (by repeat (first | exact hall | refine Kept.then_drew ?_ | refine Kept.then_drewN ?_ _ | refine Kept.then_alloc ?_ _))) rfl
  have e1 := cell_at (i := 1) (HC.out _ (by repeat (first | exact hall | refine Kept.then_drew ?_ | refine Kept.then_drewN ?_ _ | refine Kept.then_alloc ?_ _))) rfl
  have e2 := cell_at (i := 2) (HC.out _ (by repeat (first | exact hall | refine Kept.then_drew ?_ | refine Kept.then_drewN ?_ _ | refine Kept.then_alloc ?_ _))) rfl
  have e3 := cell_at (i := 3) (HC.out _ (by repeat (first | exact hall | refine Kept.then_drew ?_ | refine Kept.then_drewN ?_ _ | refine Kept.then_alloc ?_ _))) rfl
  go_enter Tryz.func16, Tryz.ntmps16
  go_upto_region 1 with fail
  simp only [← HWB.out, ← HW1.out]
  go_wp2_with fail
  refine (HPF.out _ hall).mono ?_
  rintro e w' ⟨rfl, hkw⟩
  have hall := Kept.trans (show All w1 _ from (by repeat (first | exact hall | refine Kept.then_drew ?_ | refine Kept.then_drewN ?_ _ | refine Kept.then_alloc ?_ _))) hkw
  clear hkw e0 e1 e2 e3
  have e0 := cell_at (i := 0) (HC.out _ (by repeat (first | exact hall | refine Kept.then_drew ?_ | refine Kept.then_drewN ?_ _ | refine Kept.then_alloc ?_ _))) rfl
  have e1 := cell_at (i := 1) (HC.out _ (by repeat (first | exact hall | refine Kept.then_drew ?_ | refine Kept.then_drewN ?_ _ | refine Kept.then_alloc ?_ _))) rfl
  have e2 := cell_at (i := 2) (HC.out _ (by repeat (first | exact hall | refine Kept.then_drew ?_ | refine Kept.then_drewN ?_ _ | refine Kept.then_alloc ?_ _))) rfl
  have e3 := cell_at (i := 3) (HC.out _ (by repeat (first | exact hall | refine Kept.then_drew ?_ | refine Kept.then_drewN ?_ _ | refine Kept.then_alloc ?_ _))) rfl
  by_cases hzz : zp = 0
  case neg =>
    have hnz : (zp != 0) = true := by simpa using hzz
    have HF := Lib.hid (worldF_places HZP.out.symm hzz)
    clear hzz
    go_wp2_with fail
    go_ret
    exact ⟨ret_int' HF.out.symm, (HK0.out.trans (by repeat (first | exact hall | refine Kept.then_drew ?_ | refine Kept.then_drewN ?_ _ | refine Kept.then_alloc ?_ _)))⟩
  subst hzz
  by_cases hbig : 300 < l1
  · have hd0 : decide ((300 : Int) < (l1 : Int)) = true := by simp; omega
    have HF := Lib.hid (worldF_people HZP.out.symm (peopleF_large (ps := s.places) (l := s.people) (by have := HLEN.out; omega)) (by decide))
    go_wp2_with fail
    go_ret
    exact ⟨ret_int' HF.out.symm, (HK0.out.trans (by repeat (first | exact hall | refine Kept.then_drew ?_ | refine Kept.then_drewN ?_ _ | refine Kept.then_alloc ?_ _)))⟩
  have hd0 : decide ((300 : Int) < (l1 : Int)) = false := by simp; omega
  have HBIG := Lib.hid (show ¬ 300 < s.people.length from by have := HLEN.out; omega)
  have HFS := Lib.hid (show ∀ z, z ≠ 0 → scanF (perE s.places) none s.people = z → worldF s = z from fun z hz h => worldF_people HZP.out.symm (peopleF_scan HBIG.out h hz) hz)
  go_wp2_with fail
  go_loopw [4, 25] (fun t i wr => ∃ (k : Nat) (t0 : ByteArray), k ≤ l1 ∧ t = .string t0 ∧ i = .int .i64 k ∧ t0 = lastK (fun p : Per => p.key) s.people k ∧ ScanAt (perE s.places) s.people k ∧ All w1 wr) (fun _ i _ => l1 - (intOf i).toNat)
  case atStart => exact ⟨0, _, Nat.zero_le _, rfl, rfl, rfl, ScanAt.zero _ _, (by repeat (first | exact hall | refine Kept.then_drew ?_ | refine Kept.then_drewN ?_ _ | refine Kept.then_alloc ?_ _))⟩
  case round =>
    clear hall e0 e1 e2 e3
    obtain ⟨k, t0, hk, rfl, rfl, ht0, hat, hall⟩ := hrel
    obtain ⟨wo, rfl⟩ : ∃ wo : World, wo = wr := ⟨_, rfl⟩
    by_cases hlt : k < l1
    · have HT := Lib.hid (show t0 = ((prevAt s.people k).map (fun p : Per => p.key)).getD ⟨#[]⟩ from by rw [ht0, lastK]; cases prevAt s.people k <;> rfl)
      clear ht0
      obtain ⟨b, off, x, na, nc, ha, hc, ma, mc, va, vc, haa, -, d0, d1, d2, d3, d4, hper, hx, -⟩ := (HS.out _ hall).atPer hlt
      subst haa
      have HX := Lib.hid hx
      clear hx
      have HAT := Lib.hid hat
      clear hat
      have hb9 := heap_at wo (.cells #[.string x.key, .slice na x.names.length nc, .slice ha x.homes.length hc, .slice ma x.mails.length mc, .slice va x.advs.length vc] 97) _ rfl
      obtain ⟨xb, hxb⟩ : ∃ z, z = wo.heap.size := ⟨_, rfl⟩
      have HXB := Lib.hid hxb
      rw [← hxb] at hb9
      have hall' : All w1 (wo.alloc (.cells #[.string x.key, .slice na x.names.length nc, .slice ha x.homes.length hc, .slice ma x.mails.length mc, .slice va x.advs.length vc] 97)) := hall.then_alloc _
      have HPX := Lib.hid (hper.keep (Kept.alloc (fun _ => True) wo (.cells #[.string x.key, .slice na x.names.length nc, .slice ha x.homes.length hc, .slice ma x.mails.length mc, .slice va x.advs.length vc] 97)))
      have hadl : x.advs.length ≤ 1000 := hper.small.2.2.2.2
      clear hxb hall hper
      go_upto_region 10 with fail
      simp only [← HXB.out]
      generalize wo.alloc (.cells #[.string x.key, .slice na x.names.length nc, .slice ha x.homes.length hc, .slice ma x.mails.length mc, .slice va x.advs.length vc] 97) = w9 at *
      have hall := hall'
      have x0 := cell_at (i := 0) hb9 rfl
      have x1 := cell_at (i := 1) hb9 rfl
      have x2 := cell_at (i := 2) hb9 rfl
      have x3 := cell_at (i := 3) hb9 rfl
      have x4 := cell_at (i := 4) hb9 rfl
      clear hb9 d0 d1 d2 d3 d4 hall'
      have e0 := cell_at (i := 0) (HC.out _ hall) rfl
      have HQ := Lib.hid (fun (wx : World) (k1 : All w1 wx) (k9 : All w9 wx) => personFaultR_any a0 l0 c0 s.places x na nc ha hc ma mc va vc ((prevAt s.people k).map (fun p : Per => p.key)) t0 HT.out wx (HP.out _ k1) hl0 (HPX.out.keep k9) (HG.out _ k1))
      rw [← perE_Q] at HQ
      obtain ⟨z, hz⟩ : ∃ z, z = perE s.places (prevAt s.people k) x := ⟨_, rfl⟩
      have HZ := Lib.hid hz
      rw [← hz] at HQ
      clear hz
      go_wp2_with fail
      refine (HQ.out _ (by repeat (first | exact hall | refine Kept.then_drew ?_ | refine Kept.then_drewN ?_ _ | refine Kept.then_alloc ?_ _)) (by repeat (first | exact Kept.refl _ _ | refine Kept.then_drew ?_ | refine Kept.then_drewN ?_ _))).mono ?_
      rintro e w' ⟨rfl, hkw⟩
      have x0 := hkw.cell x0 trivial
      have hall := Kept.trans (show All w1 _ from (by repeat (first | exact hall | refine Kept.then_drew ?_ | refine Kept.then_drewN ?_ _ | refine Kept.then_alloc ?_ _))) hkw
      by_cases hzz : z = 0
      · have hnz : (z != 0) = false := by simpa using hzz
        have HN := Lib.hid (HAT.out.next HX.out (HZ.out.symm.trans hzz))
        clear hzz
        go_wp2_with fail
        go_roundw
        case rel => exact ⟨k + 1, _, by omega, rfl, by go_num, (lastK_next (key := fun p : Per => p.key) HX.out).symm, HN.out, (by repeat (first | exact hall | refine Kept.then_drew ?_ | refine Kept.then_drewN ?_ _ | refine Kept.then_alloc ?_ _))⟩
        case measure => simp [intOf]; omega
      · have hnz : (z != 0) = true := by simpa using hzz
        have HF := Lib.hid (HFS.out z hzz (HAT.out.bad HX.out HZ.out.symm hzz))
        clear hzz
        go_wp2_with fail
        go_ret
        exact ⟨ret_int' HF.out.symm, (HK0.out.trans (by repeat (first | exact hall | refine Kept.then_drew ?_ | refine Kept.then_drewN ?_ _ | refine Kept.then_alloc ?_ _)))⟩
    · have hd : decide ((k : Int) < (l1 : Int)) = false := by simp; omega
      have HSC := Lib.hid (hat.ok (by have := HLEN.out; omega))
      clear hat ht0
      have e1 := cell_at (i := 1) (HC.out _ hall) rfl
      go_wp2_with fail
      go_loopw [43] (fun i wr => ∃ k : Nat, k ≤ l1 ∧ i = .int .i64 k ∧ (s.people.take k).any (fun p => p.advs.any fun a => !hasK s.people a) = false ∧ All w1 wr) (fun i _ => l1 - (intOf i).toNat)
      case atStart => exact ⟨0, Nat.zero_le _, rfl, rfl, (by repeat (first | exact hall | refine Kept.then_drew ?_ | refine Kept.then_drewN ?_ _ | refine Kept.then_alloc ?_ _))⟩
      case round =>
        clear hall e1 hd hlt hk
        obtain ⟨k, hk, rfl, hno, hall⟩ := hrel
        obtain ⟨wo, rfl⟩ : ∃ wo : World, wo = wr := ⟨_, rfl⟩
        by_cases hlt : k < l1
        · obtain ⟨b, off, x, na, nc, ha, hc, ma, mc, va, vc, haa, -, d0, d1, d2, d3, d4, hper, hx, -⟩ := (HS.out _ hall).atPer hlt
          subst haa
          have HX := Lib.hid hx
          clear hx
          have HNO := Lib.hid hno
          clear hno
          have hb9 := heap_at wo (.cells #[.string x.key, .slice na x.names.length nc, .slice ha x.homes.length hc, .slice ma x.mails.length mc, .slice va x.advs.length vc] 97) _ rfl
          obtain ⟨xb, hxb⟩ : ∃ z, z = wo.heap.size := ⟨_, rfl⟩
          have HXB := Lib.hid hxb
          rw [← hxb] at hb9
          have hall' : All w1 (wo.alloc (.cells #[.string x.key, .slice na x.names.length nc, .slice ha x.homes.length hc, .slice ma x.mails.length mc, .slice va x.advs.length vc] 97)) := hall.then_alloc _
          have HPX := Lib.hid (hper.keep (Kept.alloc (fun _ => True) wo (.cells #[.string x.key, .slice na x.names.length nc, .slice ha x.homes.length hc, .slice ma x.mails.length mc, .slice va x.advs.length vc] 97)))
          have hadl : x.advs.length ≤ 1000 := hper.small.2.2.2.2
          clear hxb hall hper
          go_upto_region 18 with fail
          simp only [← HXB.out]
          generalize wo.alloc (.cells #[.string x.key, .slice na x.names.length nc, .slice ha x.homes.length hc, .slice ma x.mails.length mc, .slice va x.advs.length vc] 97) = w9 at *
          have hall := hall'
          have x0 := cell_at (i := 0) hb9 rfl
          have x1 := cell_at (i := 1) hb9 rfl
          have x2 := cell_at (i := 2) hb9 rfl
          have x3 := cell_at (i := 3) hb9 rfl
          have x4 := cell_at (i := 4) hb9 rfl
          clear hb9 d0 d1 d2 d3 d4 hall'
          go_wp2_with fail
          go_loopw [50] (fun i wr => ∃ j : Nat, j ≤ x.advs.length ∧ i = .int .i64 j ∧ (x.advs.take j).any (fun a => !hasK s.people a) = false ∧ All w9 wr) (fun i _ => x.advs.length - (intOf i).toNat)
          case atStart => exact ⟨0, Nat.zero_le _, rfl, rfl, Kept.refl _ _⟩
          case round =>
            clear x0 x1 x2 x3 x4
            obtain ⟨j, hj, rfl, hno, hk9⟩ := hrel
            have hall := hall.trans hk9
            obtain ⟨wi, rfl⟩ : ∃ wi : World, wi = wr := ⟨_, rfl⟩
            by_cases hjl : j < x.advs.length
            · obtain ⟨b', off', t, ha', -, c0', htz, ht, -, -⟩ := (HPX.out.keep hk9).radvs.atStr hjl
              subst ha'
              have HT := Lib.hid ht
              have HPT := Lib.hid (HPA.out t _ hall)
              have HK9 := Lib.hid hk9
              clear ht hk9
              have e0 := cell_at (i := 0) (HC.out _ (by repeat (first | exact hall | refine Kept.then_drew ?_ | refine Kept.then_drewN ?_ _ | refine Kept.then_alloc ?_ _))) rfl
              have e1 := cell_at (i := 1) (HC.out _ (by repeat (first | exact hall | refine Kept.then_drew ?_ | refine Kept.then_drewN ?_ _ | refine Kept.then_alloc ?_ _))) rfl
              have e2 := cell_at (i := 2) (HC.out _ (by repeat (first | exact hall | refine Kept.then_drew ?_ | refine Kept.then_drewN ?_ _ | refine Kept.then_alloc ?_ _))) rfl
              have e3 := cell_at (i := 3) (HC.out _ (by repeat (first | exact hall | refine Kept.then_drew ?_ | refine Kept.then_drewN ?_ _ | refine Kept.then_alloc ?_ _))) rfl
              cases hkk : hasK s.people t with
              | false =>
                have hpx := perIx_neg s.people t
                rw [hkk] at hpx
                have HF := Lib.hid (worldF_people HZP.out.symm (peopleF_none HBIG.out HSC.out (any_hit HX.out (any_hit HT.out (by simp [hkk])))) (by decide))
                obtain ⟨zx, hzx⟩ : ∃ z, z = perIx s.people t := ⟨_, rfl⟩
                rw [← hzx] at hpx HPT
                clear hno hkk hzx
                go_wp2_with fail
                refine HPT.out.mono ?_
                rintro e w' ⟨rfl, hkw⟩
                have hall := hall.trans hkw
                go_wp2_with fail
                go_ret
                exact ⟨ret_int' HF.out.symm, (HK0.out.trans (by repeat (first | exact hall | refine Kept.then_drew ?_ | refine Kept.then_drewN ?_ _ | refine Kept.then_alloc ?_ _)))⟩
              | true =>
                have hpx := perIx_neg s.people t
                rw [hkk] at hpx
                have HN := Lib.hid (any_next hno HT.out (by simp [hkk]))
                obtain ⟨zx, hzx⟩ : ∃ z, z = perIx s.people t := ⟨_, rfl⟩
                rw [← hzx] at hpx HPT
                clear hno hkk hzx
                go_wp2_with fail
                refine HPT.out.mono ?_
                rintro e w' ⟨rfl, hkw⟩
                go_wp2_with fail
                go_roundw
                case rel => exact ⟨j + 1, by omega, by go_num, HN.out, HK9.out.trans hkw⟩
                case measure => simp [intOf]; omega
            · have hd : decide ((j : Int) < (x.advs.length : Int)) = false := by simp; omega
              have HN := Lib.hid (any_next HNO.out HX.out (by rw [List.take_of_length_le (by omega)] at hno; exact hno))
              clear hno
              go_wp2_with fail
              go_roundw
              case rel => exact ⟨k + 1, by omega, by go_num, HN.out, (by repeat (first | exact hall | refine Kept.then_drew ?_ | refine Kept.then_drewN ?_ _ | refine Kept.then_alloc ?_ _))⟩
              case measure => simp [intOf]; omega
        · have hd : decide ((k : Int) < (l1 : Int)) = false := by simp; omega
          have HF := Lib.hid (worldF_wb HZP.out.symm (peopleF_ok HBIG.out HSC.out (by rw [List.take_of_length_le (by have := HLEN.out; omega)] at hno; exact hno)))
          clear hno
          obtain ⟨zw, hzw⟩ : ∃ z, z = wbF s.people s.works s.bonds := ⟨_, rfl⟩
          rw [← hzw] at HWF HF
          clear hzw
          have e0 := cell_at (i := 0) (HC.out _ (by repeat (first | exact hall | refine Kept.then_drew ?_ | refine Kept.then_drewN ?_ _ | refine Kept.then_alloc ?_ _))) rfl
          have e1 := cell_at (i := 1) (HC.out _ (by repeat (first | exact hall | refine Kept.then_drew ?_ | refine Kept.then_drewN ?_ _ | refine Kept.then_alloc ?_ _))) rfl
          have e2 := cell_at (i := 2) (HC.out _ (by repeat (first | exact hall | refine Kept.then_drew ?_ | refine Kept.then_drewN ?_ _ | refine Kept.then_alloc ?_ _))) rfl
          have e3 := cell_at (i := 3) (HC.out _ (by repeat (first | exact hall | refine Kept.then_drew ?_ | refine Kept.then_drewN ?_ _ | refine Kept.then_alloc ?_ _))) rfl
          go_wp2_with fail
          refine (HWF.out _ (by repeat (first | exact hall | refine Kept.then_drew ?_ | refine Kept.then_drewN ?_ _ | refine Kept.then_alloc ?_ _))).mono ?_
          rintro e w' ⟨rfl, hkw⟩
          have hall := Kept.trans (show All w1 _ from (by repeat (first | exact hall | refine Kept.then_drew ?_ | refine Kept.then_drewN ?_ _ | refine Kept.then_alloc ?_ _))) hkw
          go_wp2_with fail
          go_ret
          exact ⟨ret_int' HF.out.symm, (HK0.out.trans (by repeat (first | exact hall | refine Kept.then_drew ?_ | refine Kept.then_drewN ?_ _ | refine Kept.then_alloc ?_ _)))⟩
end Go.Proofs.YtgobnlgmbplggaaGreatDoor

/- Worlds under way: blocks of places, names, homes, bonds, persons, works, worlds that are right all through. -/
namespace Go.Proofs.YtgobnlgmbplggaaGreatDoor
open Go.RowKit

def wFds : Nat → List Fd
  | 0 => [.s]
  | 1 => [.s, .s]
  | 2 => [.s, .i]
  | 3 => [.s, .i, .i]
  | 4 => [.s, .s]
  | 5 => [.s, .sl 2, .sl 3, .sl 0, .sl 0]
  | 6 => [.i, .sl 0]
  | 7 => [.sl 1, .sl 5, .sl 6, .sl 4]
  | 8 => [.sl 0]
  | 9 => [.i]
  | 10 => [.r 0 101]
  | 11 => [.r 0 3000]
  | 12 => [.i, .i]
  | _ => []
def wTy : Nat → TypeId
  | 0 => 9
  | 1 => 91
  | 2 => 99
  | 3 => 101
  | 4 => 75
  | 5 => 97
  | 6 => 105
  | 7 => 31
  | 8 => 45
  | 9 => 3
  | 10 => 3
  | 11 => 3
  | 12 => 35
  | _ => 0
/-- The kinds of a world's blocks. -/
def Θw : Kinds := ⟨wFds, wTy, 200⟩
theorem wKind {k : Nat} (h : 0 < Θw.sz k) : k < 13 := by
  rcases Nat.lt_or_ge k 13 with h1 | h1
  · exact h1
  · obtain ⟨j, rfl⟩ : ∃ j, k = j + 13 := ⟨k - 13, by omega⟩
    exact absurd h (by show ¬ 0 < (wFds (j + 13)).length; simp [wFds])
theorem wSep (k : Nat) (hk : k < 9) : Θw.Sep k := by
  intro k' h h' e
  have h1 : ∀ k, k < 9 → ∀ k', k' < 13 → wTy k = wTy k' → k = k' := by decide
  exact h1 k hk k' (wKind h') e
theorem zS (K : Nat → Nat → Nat → Prop) (N : Nat → Nat) : GoodV Θw K N .s (.string ⟨#[]⟩) := ⟨_, rfl, by decide⟩
theorem zI (K : Nat → Nat → Nat → Prop) (N : Nat → Nat) : GoodV Θw K N .i (.int .i64 0) := ⟨_, rfl, by decide, by decide⟩
theorem zL (K : Nat → Nat → Nat → Prop) (N : Nat → Nat) (k : Nat) : GoodV Θw K N (.sl k) (.slice none 0 0) := Or.inl ⟨_, rfl⟩
theorem cons_ok {fs : List Fd} {f : Fd} {vs : List Value} {v : Value} (h : ∀ K N, GoodV Θw K N f v) (h2 : ∀ (j : Nat) (u : Value), vs[j]? = some u → ∃ f, fs[j]? = some f ∧ ∀ K N, GoodV Θw K N f u) :
    ∀ (j : Nat) (u : Value), (v :: vs)[j]? = some u → ∃ g, (f :: fs)[j]? = some g ∧ ∀ K N, GoodV Θw K N g u := by
  intro j u hj
  cases j with
  | zero => simp at hj; subst hj; exact ⟨f, by simp, h⟩
  | succ j => obtain ⟨g, h3, h4⟩ := h2 j u (by simpa using hj); exact ⟨g, by simpa using h3, h4⟩
theorem nil_ok : ∀ (j : Nat) (u : Value), ([] : List Value)[j]? = some u → ∃ g, ([] : List Fd)[j]? = some g ∧ ∀ K N, GoodV Θw K N g u := fun j u h => by simp at h
theorem ok_of {k : Nat} {z : Value} {l : List Value} (hl : z.cells = l.toArray) (h : ∀ (j : Nat) (u : Value), l[j]? = some u → ∃ f, (wFds k)[j]? = some f ∧ ∀ K N, GoodV Θw K N f u) : ∀ (j : Nat) (u : Value), z.cells[j]? = some u → ∃ f, (Θw.fds k)[j]? = some f ∧ ∀ K N, GoodV Θw K N f u :=
  fun j u hj => h j u (by rw [hl] at hj; simpa using hj)
theorem wOk0 : KindOk Tryz.prog Θw 0 45 where
  und := Tryz.underlying45
  inf := ⟨.string ⟨#[]⟩, 16, by kernel_rfl, by decide, rfl, ok_of (l := [.string ⟨#[]⟩]) rfl (cons_ok (zS) nil_ok)⟩
  pos := by decide
theorem wOk1 : KindOk Tryz.prog Θw 1 26 where
  und := Tryz.underlying26
  inf := ⟨.agg #[.string ⟨#[]⟩, .string ⟨#[]⟩], 32, by kernel_rfl, by decide, rfl, ok_of (l := [.string ⟨#[]⟩, .string ⟨#[]⟩]) rfl (cons_ok zS (cons_ok zS nil_ok))⟩
  pos := by decide
theorem wOk2 : KindOk Tryz.prog Θw 2 94 where
  und := Tryz.underlying94
  inf := ⟨.agg #[.string ⟨#[]⟩, .int .i64 0], 24, by kernel_rfl, by decide, rfl, ok_of (l := [.string ⟨#[]⟩, .int .i64 0]) rfl (cons_ok zS (cons_ok zI nil_ok))⟩
  pos := by decide
theorem wOk3 : KindOk Tryz.prog Θw 3 95 where
  und := Tryz.underlying95
  inf := ⟨.agg #[.string ⟨#[]⟩, .int .i64 0, .int .i64 0], 32, by kernel_rfl, by decide, rfl, ok_of (l := [.string ⟨#[]⟩, .int .i64 0, .int .i64 0]) rfl (cons_ok zS (cons_ok zI (cons_ok zI nil_ok)))⟩
  pos := by decide
theorem wOk4 : KindOk Tryz.prog Θw 4 29 where
  und := Tryz.underlying29
  inf := ⟨.agg #[.string ⟨#[]⟩, .string ⟨#[]⟩], 32, by kernel_rfl, by decide, rfl, ok_of (l := [.string ⟨#[]⟩, .string ⟨#[]⟩]) rfl (cons_ok zS (cons_ok zS nil_ok))⟩
  pos := by decide
theorem wOk5 : KindOk Tryz.prog Θw 5 27 where
  und := Tryz.underlying27
  inf := ⟨.agg #[.string ⟨#[]⟩, .slice none 0 0, .slice none 0 0, .slice none 0 0, .slice none 0 0], 112, by kernel_rfl, by decide, rfl, ok_of (l := [.string ⟨#[]⟩, .slice none 0 0, .slice none 0 0, .slice none 0 0, .slice none 0 0]) rfl (cons_ok zS (cons_ok (fun K N => zL K N 2) (cons_ok (fun K N => zL K N 3) (cons_ok (fun K N => zL K N 0) (cons_ok (fun K N => zL K N 0) nil_ok)))))⟩
  pos := by decide
theorem wOk6 : KindOk Tryz.prog Θw 6 28 where
  und := Tryz.underlying28
  inf := ⟨.agg #[.int .i64 0, .slice none 0 0], 32, by kernel_rfl, by decide, rfl, ok_of (l := [.int .i64 0, .slice none 0 0]) rfl (cons_ok zI (cons_ok (fun K N => zL K N 0) nil_ok))⟩
  pos := by decide

/-- A slice whose elements read one by one. -/
theorem Sl.ofEach {α : Type} {R : Rel α} {sz : Nat} {F : Nat → Prop} {w : World} {P : α → Prop} {g n : Nat} (hF : F g)
    (h : ∀ i, i < n → ∃ (vs : List Value) (x : α), vs.length = sz ∧ (∀ (j : Nat) (hj : j < vs.length), w.cell? ⟨g, i * sz + j, none⟩ = some vs[j]) ∧ R F w vs x ∧ P x) :
    ∃ xs : List α, Sl R sz F w (some ⟨g, 0, none⟩) n xs ∧ ∀ x ∈ xs, P x := by
  have h' : ∀ i : Fin n, ∃ (x : α), P x ∧ ∃ vs : List Value, vs.length = sz ∧ (∀ (j : Nat) (hj : j < vs.length), w.cell? ⟨g, 0 + i.1 * sz + j, none⟩ = some vs[j]) ∧ R F w vs x := fun i => by
    obtain ⟨vs, x, h1, h2, h3, h4⟩ := h i.1 i.2
    exact ⟨x, h4, vs, h1, by simpa using h2, h3⟩
  refine ⟨List.ofFn fun i : Fin n => Classical.choose (h' i), ⟨by simp, fun _ => ⟨g, 0, rfl, hF, fun i hi => ?_⟩⟩, fun x hx => ?_⟩
  · simp at hi
    have := (Classical.choose_spec (h' ⟨i, hi⟩)).2
    simpa using this
  · obtain ⟨i, rfl⟩ := List.mem_ofFn.1 hx
    exact (Classical.choose_spec (h' i)).1

/-- Short. -/
def StrT (s : ByteArray) : Prop := s.size ≤ 200
def PlcT (x : Plc) : Prop := x.key.size ≤ 200 ∧ x.parent.size ≤ 200
def NamT (x : Nam) : Prop := x.name.size ≤ 200
def HomT (x : Hom) : Prop := x.place.size ≤ 200
def BndT (x : Bnd) : Prop := x.a.size ≤ 200 ∧ x.b.size ≤ 200
structure PerT (N : Nat → Nat) (x : Per) : Prop where
  key : x.key.size ≤ 200
  names : x.names.length ≤ N 2 ∧ ∀ y ∈ x.names, NamT y
  homes : x.homes.length ≤ N 3 ∧ ∀ y ∈ x.homes, HomT y
  mails : x.mails.length ≤ N 0 ∧ ∀ y ∈ x.mails, StrT y
  advs : x.advs.length ≤ N 0 ∧ ∀ y ∈ x.advs, StrT y
structure WrkT (N : Nat → Nat) (x : Wrk) : Prop where
  authors : x.authors.length ≤ N 0 ∧ ∀ y ∈ x.authors, StrT y
structure WldT (N : Nat → Nat) (s : Wld) : Prop where
  places : s.places.length ≤ N 1 ∧ ∀ y ∈ s.places, PlcT y
  people : s.people.length ≤ N 5 ∧ ∀ y ∈ s.people, PerT N y
  works : s.works.length ≤ N 6 ∧ ∀ y ∈ s.works, WrkT N y
  bonds : s.bonds.length ≤ N 4 ∧ ∀ y ∈ s.bonds, BndT y
section
variable {B : Nat} {N N' : Nat → Nat} {w w' : World} {g k m n : Nat}
/-- The cells of the elements. -/
theorem TB.str (h : TB Θw B N w g 0 m) {i : Nat} (hi : i < m) : ∃ s, w.cell? ⟨g, i, none⟩ = some (.string s) ∧ StrT s := by
  obtain ⟨v, h1, s, rfl, h2⟩ := h.cell hi (j := 0) (f := .s) rfl
  exact ⟨s, by simpa [Kinds.sz, Θw, wFds] using h1, h2⟩
theorem TB.plc (h : TB Θw B N w g 1 m) {i : Nat} (hi : i < m) : ∃ x, w.cell? ⟨g, i * 2, none⟩ = some (.string x.key) ∧ w.cell? ⟨g, i * 2 + 1, none⟩ = some (.string x.parent) ∧ PlcT x := by
  obtain ⟨v, h1, s, rfl, h2⟩ := h.cell hi (j := 0) (f := .s) rfl
  obtain ⟨v, h3, t, rfl, h4⟩ := h.cell hi (j := 1) (f := .s) rfl
  exact ⟨⟨s, t⟩, h1, h3, h2, h4⟩
theorem TB.nam (h : TB Θw B N w g 2 m) {i : Nat} (hi : i < m) : ∃ x, w.cell? ⟨g, i * 2, none⟩ = some (.string x.name) ∧ w.cell? ⟨g, i * 2 + 1, none⟩ = some (.int .i64 x.frm) ∧ NamSmall x ∧ NamT x := by
  obtain ⟨v, h1, s, rfl, h2⟩ := h.cell hi (j := 0) (f := .s) rfl
  obtain ⟨v, h3, t, rfl, h4⟩ := h.cell hi (j := 1) (f := .i) rfl
  exact ⟨⟨s, t⟩, h1, h3, ⟨Nat.le_trans h2 (by decide), h4⟩, h2⟩
theorem TB.hom (h : TB Θw B N w g 3 m) {i : Nat} (hi : i < m) : ∃ x, w.cell? ⟨g, i * 3, none⟩ = some (.string x.place) ∧ w.cell? ⟨g, i * 3 + 1, none⟩ = some (.int .i64 x.frm) ∧ w.cell? ⟨g, i * 3 + 2, none⟩ = some (.int .i64 x.til) ∧ HomSmall x ∧ HomT x := by
  obtain ⟨v, h1, s, rfl, h2⟩ := h.cell hi (j := 0) (f := .s) rfl
  obtain ⟨v, h3, t, rfl, h4⟩ := h.cell hi (j := 1) (f := .i) rfl
  obtain ⟨v, h5, u, rfl, h6⟩ := h.cell hi (j := 2) (f := .i) rfl
  exact ⟨⟨s, t, u⟩, h1, h3, h5, ⟨Nat.le_trans h2 (by decide), h4, h6⟩, h2⟩
theorem TB.bnd (h : TB Θw B N w g 4 m) {i : Nat} (hi : i < m) : ∃ x, w.cell? ⟨g, i * 2, none⟩ = some (.string x.a) ∧ w.cell? ⟨g, i * 2 + 1, none⟩ = some (.string x.b) ∧ BndT x := by
  obtain ⟨v, h1, s, rfl, h2⟩ := h.cell hi (j := 0) (f := .s) rfl
  obtain ⟨v, h3, t, rfl, h4⟩ := h.cell hi (j := 1) (f := .s) rfl
  exact ⟨⟨s, t⟩, h1, h3, h2, h4⟩
/-- A slice cell. -/
theorem TB.sl (h : TB Θw B N w g k m) {i : Nat} (hi : i < m) (j : Nat) {k' : Nat} (hf : (Θw.fds k)[j]? = some (.sl k')) : ∃ a n cap, w.cell? ⟨g, i * Θw.sz k + j, none⟩ = some (.slice a n cap) ∧ Gd Θw B N w (.sl k') (.slice a n cap) ∧ n ≤ cap ∧ n ≤ N k' := by
  obtain ⟨v, h1, h2⟩ := h.cell hi hf
  obtain ⟨a, n, cap, rfl, h3, h4, -⟩ := h2.slice
  exact ⟨a, n, cap, h1, h2, h4, h3⟩
theorem TB.per (h : TB Θw B N w g 5 m) {i : Nat} (hi : i < m) : ∃ s a1 n1 c1 a2 n2 c2 a3 n3 c3 a4 n4 c4, w.cell? ⟨g, i * 5, none⟩ = some (.string s) ∧ w.cell? ⟨g, i * 5 + 1, none⟩ = some (.slice a1 n1 c1) ∧ w.cell? ⟨g, i * 5 + 2, none⟩ = some (.slice a2 n2 c2) ∧ w.cell? ⟨g, i * 5 + 3, none⟩ = some (.slice a3 n3 c3) ∧ w.cell? ⟨g, i * 5 + 4, none⟩ = some (.slice a4 n4 c4) ∧
    StrT s ∧ Gd Θw B N w (.sl 2) (.slice a1 n1 c1) ∧ Gd Θw B N w (.sl 3) (.slice a2 n2 c2) ∧ Gd Θw B N w (.sl 0) (.slice a3 n3 c3) ∧ Gd Θw B N w (.sl 0) (.slice a4 n4 c4) := by
  obtain ⟨v, h1, s, rfl, h2⟩ := h.cell hi (j := 0) (f := .s) rfl
  obtain ⟨a1, n1, c1, e1, g1, -⟩ := h.sl hi 1 rfl
  obtain ⟨a2, n2, c2, e2, g2, -⟩ := h.sl hi 2 rfl
  obtain ⟨a3, n3, c3, e3, g3, -⟩ := h.sl hi 3 rfl
  obtain ⟨a4, n4, c4, e4, g4, -⟩ := h.sl hi 4 rfl
  exact ⟨s, a1, n1, c1, a2, n2, c2, a3, n3, c3, a4, n4, c4, h1, e1, e2, e3, e4, h2, g1, g2, g3, g4⟩
theorem TB.wrk (h : TB Θw B N w g 6 m) {i : Nat} (hi : i < m) : ∃ d a1 n1 c1, w.cell? ⟨g, i * 2, none⟩ = some (.int .i64 d) ∧ w.cell? ⟨g, i * 2 + 1, none⟩ = some (.slice a1 n1 c1) ∧ (-2000000000000 ≤ d ∧ d ≤ 2000000000000) ∧ Gd Θw B N w (.sl 0) (.slice a1 n1 c1) := by
  obtain ⟨v, h1, s, rfl, h2⟩ := h.cell hi (j := 0) (f := .i) rfl
  obtain ⟨a1, n1, c1, e1, g1, -⟩ := h.sl hi 1 rfl
  exact ⟨s, a1, n1, c1, h1, e1, h2, g1⟩
theorem TB.wld (h : TB Θw B N w g 7 m) (hm : 0 < m) : ∃ a0 n0 c0 a1 n1 c1 a2 n2 c2 a3 n3 c3, w.cell? ⟨g, 0, none⟩ = some (.slice a0 n0 c0) ∧ w.cell? ⟨g, 1, none⟩ = some (.slice a1 n1 c1) ∧ w.cell? ⟨g, 2, none⟩ = some (.slice a2 n2 c2) ∧ w.cell? ⟨g, 3, none⟩ = some (.slice a3 n3 c3) ∧
    Gd Θw B N w (.sl 1) (.slice a0 n0 c0) ∧ Gd Θw B N w (.sl 5) (.slice a1 n1 c1) ∧ Gd Θw B N w (.sl 6) (.slice a2 n2 c2) ∧ Gd Θw B N w (.sl 4) (.slice a3 n3 c3) := by
  obtain ⟨a0, n0, c0, e0, g0, -⟩ := h.sl hm 0 rfl
  obtain ⟨a1, n1, c1, e1, g1, -⟩ := h.sl hm 1 rfl
  obtain ⟨a2, n2, c2, e2, g2, -⟩ := h.sl hm 2 rfl
  obtain ⟨a3, n3, c3, e3, g3, -⟩ := h.sl hm 3 rfl
  simp only [Nat.zero_mul, Nat.zero_add] at e0 e1 e2 e3
  exact ⟨a0, n0, c0, a1, n1, c1, a2, n2, c2, a3, n3, c3, e0, e1, e2, e3, g0, g1, g2, g3⟩
/-- What slices read as. -/
theorem Gd.strs {a : Option Addr} {cap : Nat} (h : Gd Θw B N w (.sl 0) (.slice a n cap)) : ∃ xs, Sl RStr 1 (fun b => B ≤ b) w a n xs ∧ ∀ x ∈ xs, StrT x := by
  obtain ⟨a', n', cap', e, -, hc, h2⟩ := h.slice
  cases e
  rcases Nat.eq_zero_or_pos n with rfl | h0
  · exact ⟨[], Sl.nil _ _ _ _ _, fun _ h => nomatch h⟩
  obtain ⟨g, rfl, hg⟩ := h2 h0
  refine Sl.ofEach hg.low fun i hi => ?_
  obtain ⟨s, e0, hs⟩ := hg.str (i := i) (by omega)
  refine ⟨[.string s], s, rfl, fun j hj => ?_, ⟨rfl, Nat.le_trans hs (by decide)⟩, hs⟩
  obtain rfl : j = 0 := by simpa using hj
  simpa using e0
theorem Gd.plcs {a : Option Addr} {cap : Nat} (h : Gd Θw B N w (.sl 1) (.slice a n cap)) : ∃ xs, Sl RPlc 2 (fun b => B ≤ b) w a n xs ∧ ∀ x ∈ xs, PlcT x := by
  obtain ⟨a', n', cap', e, -, hc, h2⟩ := h.slice
  cases e
  rcases Nat.eq_zero_or_pos n with rfl | h0
  · exact ⟨[], Sl.nil _ _ _ _ _, fun _ h => nomatch h⟩
  obtain ⟨g, rfl, hg⟩ := h2 h0
  refine Sl.ofEach hg.low fun i hi => ?_
  obtain ⟨x, e0, e1, hx⟩ := hg.plc (i := i) (by omega)
  refine ⟨encPlc x, x, rfl, fun j hj => ?_, ⟨rfl, Nat.le_trans hx.1 (by decide), Nat.le_trans hx.2 (by decide)⟩, hx⟩
  have h3 : j = 0 ∨ j = 1 := by simp [encPlc] at hj; omega
  rcases h3 with rfl | rfl
  · exact e0
  · exact e1
theorem Gd.nams {a : Option Addr} {cap : Nat} (h : Gd Θw B N w (.sl 2) (.slice a n cap)) : ∃ xs, Sl RNam 2 (fun b => B ≤ b) w a n xs ∧ ∀ x ∈ xs, NamT x := by
  obtain ⟨a', n', cap', e, -, hc, h2⟩ := h.slice
  cases e
  rcases Nat.eq_zero_or_pos n with rfl | h0
  · exact ⟨[], Sl.nil _ _ _ _ _, fun _ h => nomatch h⟩
  obtain ⟨g, rfl, hg⟩ := h2 h0
  refine Sl.ofEach hg.low fun i hi => ?_
  obtain ⟨x, e0, e1, hs, hx⟩ := hg.nam (i := i) (by omega)
  refine ⟨encNam x, x, rfl, fun j hj => ?_, ⟨rfl, hs⟩, hx⟩
  have h3 : j = 0 ∨ j = 1 := by simp [encNam] at hj; omega
  rcases h3 with rfl | rfl
  · exact e0
  · exact e1
theorem Gd.homs {a : Option Addr} {cap : Nat} (h : Gd Θw B N w (.sl 3) (.slice a n cap)) : ∃ xs, Sl RHom 3 (fun b => B ≤ b) w a n xs ∧ ∀ x ∈ xs, HomT x := by
  obtain ⟨a', n', cap', e, -, hc, h2⟩ := h.slice
  cases e
  rcases Nat.eq_zero_or_pos n with rfl | h0
  · exact ⟨[], Sl.nil _ _ _ _ _, fun _ h => nomatch h⟩
  obtain ⟨g, rfl, hg⟩ := h2 h0
  refine Sl.ofEach hg.low fun i hi => ?_
  obtain ⟨x, e0, e1, e2, hs, hx⟩ := hg.hom (i := i) (by omega)
  refine ⟨encHom x, x, rfl, fun j hj => ?_, ⟨rfl, hs⟩, hx⟩
  have h3 : j = 0 ∨ j = 1 ∨ j = 2 := by simp [encHom] at hj; omega
  rcases h3 with rfl | rfl | rfl
  · exact e0
  · exact e1
  · exact e2
theorem Gd.bnds {a : Option Addr} {cap : Nat} (h : Gd Θw B N w (.sl 4) (.slice a n cap)) : ∃ xs, Sl RBnd 2 (fun b => B ≤ b) w a n xs ∧ ∀ x ∈ xs, BndT x := by
  obtain ⟨a', n', cap', e, -, hc, h2⟩ := h.slice
  cases e
  rcases Nat.eq_zero_or_pos n with rfl | h0
  · exact ⟨[], Sl.nil _ _ _ _ _, fun _ h => nomatch h⟩
  obtain ⟨g, rfl, hg⟩ := h2 h0
  refine Sl.ofEach hg.low fun i hi => ?_
  obtain ⟨x, e0, e1, hx⟩ := hg.bnd (i := i) (by omega)
  refine ⟨encBnd x, x, rfl, fun j hj => ?_, ⟨rfl, Nat.le_trans hx.1 (by decide), Nat.le_trans hx.2 (by decide)⟩, hx⟩
  have h3 : j = 0 ∨ j = 1 := by simp [encBnd] at hj; omega
  rcases h3 with rfl | rfl
  · exact e0
  · exact e1
/-- A person out of its cells. -/
theorem per_of {s : ByteArray} {a1 a2 a3 a4 : Option Addr} {n1 c1 n2 c2 n3 c3 n4 c4 : Nat} (hs : StrT s) (h1 : Gd Θw B N w (.sl 2) (.slice a1 n1 c1)) (h2 : Gd Θw B N w (.sl 3) (.slice a2 n2 c2)) (h3 : Gd Θw B N w (.sl 0) (.slice a3 n3 c3)) (h4 : Gd Θw B N w (.sl 0) (.slice a4 n4 c4)) (hN : N 2 ≤ 1000 ∧ N 3 ≤ 1000 ∧ N 0 ≤ 1000) :
    ∃ x : Per, x.key = s ∧ x.names.length = n1 ∧ x.homes.length = n2 ∧ x.mails.length = n3 ∧ x.advs.length = n4 ∧ PerIs (fun b => B ≤ b) w x a1 c1 a2 c2 a3 c3 a4 c4 ∧ PerT N x := by
  obtain ⟨q1, s1, t1⟩ := h1.nams
  obtain ⟨q2, s2, t2⟩ := h2.homs
  obtain ⟨q3, s3, t3⟩ := h3.strs
  obtain ⟨q4, s4, t4⟩ := h4.strs
  obtain ⟨_, _, _, e, b1, d1, -⟩ := h1.slice
  cases e
  obtain ⟨_, _, _, e, b2, d2, -⟩ := h2.slice
  cases e
  obtain ⟨_, _, _, e, b3, d3, -⟩ := h3.slice
  cases e
  obtain ⟨_, _, _, e, b4, d4, -⟩ := h4.slice
  cases e
  have l1 := s1.len
  have l2 := s2.len
  have l3 := s3.len
  have l4 := s4.len
  subst l1 l2 l3 l4
  obtain ⟨m1, m2, m3⟩ := hN
  exact ⟨⟨s, q1, q2, q3, q4⟩, rfl, rfl, rfl, rfl, rfl, ⟨⟨Nat.le_trans hs (by decide), Nat.le_trans b1 m1, Nat.le_trans b2 m2, Nat.le_trans b3 m3, Nat.le_trans b4 m3⟩, d1, s1, d2, s2, d3, s3, d4, s4⟩, ⟨hs, ⟨b1, t1⟩, ⟨b2, t2⟩, ⟨b3, t3⟩, ⟨b4, t4⟩⟩⟩
theorem wrk_of {d : Int} {a1 : Option Addr} {n1 c1 : Nat} (hd : -2000000000000 ≤ d ∧ d ≤ 2000000000000) (h1 : Gd Θw B N w (.sl 0) (.slice a1 n1 c1)) (hN : N 0 ≤ 1000) :
    ∃ x : Wrk, x.day = d ∧ x.authors.length = n1 ∧ WrkIs (fun b => B ≤ b) w x a1 c1 ∧ WrkT N x := by
  obtain ⟨q1, s1, t1⟩ := h1.strs
  obtain ⟨_, _, _, e, b1, d1, -⟩ := h1.slice
  cases e
  have l1 := s1.len
  subst l1
  exact ⟨⟨d, q1⟩, rfl, rfl, ⟨⟨hd, Nat.le_trans b1 hN⟩, d1, s1⟩, ⟨⟨b1, t1⟩⟩⟩
theorem Gd.pers {a : Option Addr} {cap : Nat} (h : Gd Θw B N w (.sl 5) (.slice a n cap)) (hN : N 2 ≤ 1000 ∧ N 3 ≤ 1000 ∧ N 0 ≤ 1000) : ∃ xs, Sl RPer 5 (fun b => B ≤ b) w a n xs ∧ ∀ x ∈ xs, PerT N x := by
  obtain ⟨a', n', cap', e, -, hc, h2⟩ := h.slice
  cases e
  rcases Nat.eq_zero_or_pos n with rfl | h0
  · exact ⟨[], Sl.nil _ _ _ _ _, fun _ h => nomatch h⟩
  obtain ⟨g, rfl, hg⟩ := h2 h0
  refine Sl.ofEach hg.low fun i hi => ?_
  obtain ⟨s, a1, n1, c1, a2, n2, c2, a3, n3, c3, a4, n4, c4, e0, e1, e2, e3, e4, hs, g1, g2, g3, g4⟩ := hg.per (i := i) (by omega)
  obtain ⟨x, rfl, rfl, rfl, rfl, rfl, hx, ht⟩ := per_of hs g1 g2 g3 g4 hN
  refine ⟨cellsPer x a1 c1 a2 c2 a3 c3 a4 c4, x, rfl, fun j hj => ?_, ⟨a1, c1, a2, c2, a3, c3, a4, c4, rfl, hx⟩, ht⟩
  have h3 : j = 0 ∨ j = 1 ∨ j = 2 ∨ j = 3 ∨ j = 4 := by simp at hj; omega
  rcases h3 with rfl | rfl | rfl | rfl | rfl
  · exact e0
  · exact e1
  · exact e2
  · exact e3
  · exact e4
theorem Gd.wrks {a : Option Addr} {cap : Nat} (h : Gd Θw B N w (.sl 6) (.slice a n cap)) (hN : N 0 ≤ 1000) : ∃ xs, Sl RWrk 2 (fun b => B ≤ b) w a n xs ∧ ∀ x ∈ xs, WrkT N x := by
  obtain ⟨a', n', cap', e, -, hc, h2⟩ := h.slice
  cases e
  rcases Nat.eq_zero_or_pos n with rfl | h0
  · exact ⟨[], Sl.nil _ _ _ _ _, fun _ h => nomatch h⟩
  obtain ⟨g, rfl, hg⟩ := h2 h0
  refine Sl.ofEach hg.low fun i hi => ?_
  obtain ⟨d, a1, n1, c1, e0, e1, hd, g1⟩ := hg.wrk (i := i) (by omega)
  obtain ⟨x, rfl, rfl, hx, ht⟩ := wrk_of hd g1 hN
  refine ⟨cellsWrk x a1 c1, x, rfl, fun j hj => ?_, ⟨a1, c1, rfl, hx⟩, ht⟩
  have h3 : j = 0 ∨ j = 1 := by simp at hj; omega
  rcases h3 with rfl | rfl
  · exact e0
  · exact e1
theorem wld_of {a0 a1 a2 a3 : Option Addr} {n0 c0 n1 c1 n2 c2 n3 c3 : Nat} (h0 : Gd Θw B N w (.sl 1) (.slice a0 n0 c0)) (h1 : Gd Θw B N w (.sl 5) (.slice a1 n1 c1)) (h2 : Gd Θw B N w (.sl 6) (.slice a2 n2 c2)) (h3 : Gd Θw B N w (.sl 4) (.slice a3 n3 c3)) (hN : N 2 ≤ 1000 ∧ N 3 ≤ 1000 ∧ N 0 ≤ 1000) :
    ∃ s : Wld, WldIs (fun b => B ≤ b) w a0 n0 a1 n1 a2 n2 a3 n3 s ∧ WldT N s := by
  obtain ⟨q0, s0, t0⟩ := h0.plcs
  obtain ⟨q1, s1, t1⟩ := h1.pers hN
  obtain ⟨q2, s2, t2⟩ := h2.wrks hN.2.2
  obtain ⟨q3, s3, t3⟩ := h3.bnds
  obtain ⟨_, _, _, e, b0, -⟩ := h0.slice
  cases e
  obtain ⟨_, _, _, e, b1, -⟩ := h1.slice
  cases e
  obtain ⟨_, _, _, e, b2, -⟩ := h2.slice
  cases e
  obtain ⟨_, _, _, e, b3, -⟩ := h3.slice
  cases e
  exact ⟨⟨q0, q1, q2, q3⟩, ⟨s0, s1, s2, s3⟩, ⟨⟨by rw [s0.len]; exact b0, t0⟩, ⟨by rw [s1.len]; exact b1, t1⟩, ⟨by rw [s2.len]; exact b2, t2⟩, ⟨by rw [s3.len]; exact b3, t3⟩⟩⟩
end
end Go.Proofs.YtgobnlgmbplggaaGreatDoor
