/- keysOf, peopleFault of the program. -/
import Derived.Test.YtgobnlgmbplggaaGreatDoorQ5
namespace Go.Proofs.YtgobnlgmbplggaaGreatDoor
open Go.RowKit

set_option maxHeartbeats 3200000 in
theorem keysOf_any (a0 : Option Addr) (l0 c0 : Nat) (a1 : Option Addr) (l1 c1 : Nat) (a2 : Option Addr) (l2 c2 : Nat) (a3 : Option Addr) (l3 c3 : Nat) (l : List Per) (w : World) (hs : Sl RPer 5 (fun _ => True) w a1 l1 l) (hl : l1 ≤ 100000) :
    Calls Tryz.prog 65 #[.agg #[.slice a0 l0 c0, .slice a1 l1 c1, .slice a2 l2 c2, .slice a3 l3 c3]] w fun e w' => ∃ b, e = .returned (.map (some b)) ∧ w.heap.size ≤ b ∧ MapS Tryz.prog 9 w' b l1 (keyV l) ∧ All w w' := by
  have HLEN := Lib.hid hs.len
  have HS := Lib.hid (fun (wx : World) (k : All w wx) => hs.keep RPer.ok k)
  have hb9 := heap_at w (.cells #[.slice a0 l0 c0, .slice a1 l1 c1, .slice a2 l2 c2, .slice a3 l3 c3] 31) _ rfl
  obtain ⟨w0, hw0⟩ : ∃ z, z = w.alloc (.cells #[.slice a0 l0 c0, .slice a1 l1 c1, .slice a2 l2 c2, .slice a3 l3 c3] 31) := ⟨_, rfl⟩
  have hk0 : All w w0 := by rw [hw0]; exact Kept.alloc _ _ _
  rw [← hw0] at hb9
  obtain ⟨mb, hmb⟩ : ∃ b, b = w0.heap.size := ⟨_, rfl⟩
  have HMB := Lib.hid hmb
  obtain ⟨w1, hw1⟩ : ∃ z, z = w0.alloc (.map #[] 0) := ⟨_, rfl⟩
  have HW0 := Lib.hid hw0
  have HW1 := Lib.hid hw1
  have hk1 : All w w1 := by rw [hw1]; exact hk0.then_alloc _
  have hm1 : MapS Tryz.prog 9 w1 mb 0 (fun _ => none) := by rw [hw1, hmb]; exact MapS.made _ _ _
  have e1 : w1.cell? ⟨w.heap.size, 1, none⟩ = some (.slice a1 l1 c1) := by rw [hw1]; exact cell_at (heap_old _ hb9) rfl
  have hmz : w.heap.size ≤ mb := by rw [hmb]; exact hk0.size
  have hbs : mb < w1.heap.size := hm1.lt
  have hmm := @run_makeMap Tryz.prog
  have HL1 := Lib.hid hm1
  have HK1 := Lib.hid hk1
  clear hs hw0 hw1 hm1 hk1 hk0 hb9 hmb
  go_enter Tryz.func65, Tryz.ntmps65
  go_upto_region 1 with fail
  simp only [← HW0.out]
  go_upto_region 2 with fail
  simp only [← HMB.out, ← HW1.out]
  go_wp2_with fail
  go_loopw [10] (fun i wr => ∃ k : Nat, k ≤ l1 ∧ i = .int .i64 k ∧ MapS Tryz.prog 9 wr mb k (keyV (l.take k)) ∧ All w wr) (fun i _ => l1 - (intOf i).toNat)
  case atStart => exact ⟨0, Nat.zero_le _, rfl, HL1.out, HK1.out⟩
  case round =>
    obtain ⟨k, hk, rfl, hm, hall⟩ := hrel
    obtain ⟨wo, rfl⟩ : ∃ wo : World, wo = wr := ⟨_, rfl⟩
    by_cases hlt : k < l1
    · obtain ⟨b, off, x, na, nc, ha, hc, ma, mc, va, vc, haa, -, d0, d1, d2, d3, d4, hper, hx, -⟩ := (HS.out _ hall).atPer hlt
      subst haa
      have hz1 : x.key.size ≤ 1000000 := hper.small.1
      have HX := Lib.hid hx
      obtain ⟨w9, hput, hm9, hb9⟩ := (hm.keep (Kept.alloc (fun _ => True) wo (.cells #[.string x.key, .slice na x.names.length nc, .slice ha x.homes.length hc, .slice ma x.mails.length mc, .slice va x.advs.length vc] 97)) trivial).put Tryz.underlying9 Tryz.underlying106 (by omega) x.key hz1 (.int .i64 (k : Int))
      have hm10 : MapS Tryz.prog 9 w9 mb (k + 1) (keyV (l.take (k + 1))) := by
        have := mapL_succ (key := fun p : Per => p.key) (val := fun i _ => Value.int .i64 (i : Int)) HX.out
        rw [keyV, ← this]; exact hm9
      have hk9 : All w w9 := (hall.then_alloc _).trans2 hb9 (fun i hi _ => by omega)
      have HM10 := Lib.hid hm10
      clear hx hm hm9 hb9 hm10 hper
      go_wp2_with fail
      go_roundw
      case rel => exact ⟨k + 1, by omega, by go_num, HM10.out, hk9⟩
      case measure => simp [intOf]; omega
    · have hd : decide ((k : Int) < (l1 : Int)) = false := by simp; omega
      have hm2 := hm.up (show k ≤ l1 from hk)
      rw [List.take_of_length_le (by have := HLEN.out; omega)] at hm2
      have HM2 := Lib.hid hm2
      clear hm hm2
      go_wp2_with fail
      go_ret
      exact ⟨mb, rfl, hmz, HM2.out, hall⟩
section
variable {ps : List Plc} {l : List Per} {k : Nat} {x : Per} {p : Option Per}
theorem perE_name (h : isKeyB x.key = false) : perE ps p x = 5 := by rw [perE, if_pos h]
theorem perE_order (h : isKeyB x.key = true) (h2 : notUp (p.map (·.key)) x.key = true) : perE ps p x = 7 := by rw [perE, if_neg (by rw [h]; decide), if_pos h2]
theorem perE_in (h : isKeyB x.key = true) (h2 : notUp (p.map (·.key)) x.key = false) : perE ps p x = persF ps x := by rw [perE, if_neg (by rw [h]; decide), if_neg (by rw [h2]; decide)]
theorem peopleF_large (h : 300 < l.length) : peopleF ps l = 2 := by rw [peopleF, if_pos h]
theorem peopleF_scan {z : Int} (h : ¬ 300 < l.length) (h1 : scanF (perE ps) none l = z) (hz : z ≠ 0) : peopleF ps l = z := by rw [peopleF, if_neg h, h1, if_pos hz]
theorem peopleF_none (h : ¬ 300 < l.length) (h1 : scanF (perE ps) none l = 0) (h2 : (l.any fun p => p.advs.any fun a => !hasK l a) = true) : peopleF ps l = 8 := by
  rw [peopleF, if_neg h, h1, if_neg (by decide), if_pos h2]
theorem peopleF_ok (h : ¬ 300 < l.length) (h1 : scanF (perE ps) none l = 0) (h2 : (l.any fun p => p.advs.any fun a => !hasK l a) = false) : peopleF ps l = 0 := by
  rw [peopleF, if_neg h, h1, if_neg (by decide), if_neg (by rw [h2]; decide)]
end
end Go.Proofs.YtgobnlgmbplggaaGreatDoor

/- peopleFault of the program. -/
namespace Go.Proofs.YtgobnlgmbplggaaGreatDoor
open Go.RowKit

set_option maxRecDepth 100000 in
set_option maxHeartbeats 12800000 in
theorem peopleFault_any (a0 : Option Addr) (l0 c0 : Nat) (a1 : Option Addr) (l1 c1 : Nat) (a2 : Option Addr) (l2 c2 : Nat) (a3 : Option Addr) (l3 c3 : Nat) (ps : List Plc) (l : List Per) (w : World) (hp : Sl RPlc 2 (fun _ => True) w a0 l0 ps) (hl0 : l0 ≤ 100000) (hs : Sl RPer 5 (fun _ => True) w a1 l1 l) (hl : l1 ≤ 100000) (hg : Glob w) :
    Calls Tryz.prog 64 #[.agg #[.slice a0 l0 c0, .slice a1 l1 c1, .slice a2 l2 c2, .slice a3 l3 c3]] w fun e w' => e = .returned (.int .i64 (peopleF ps l)) ∧ All w w' := by
  have HLEN := Lib.hid hs.len
  have hb0 := heap_at w (.cells #[.slice a0 l0 c0, .slice a1 l1 c1, .slice a2 l2 c2, .slice a3 l3 c3] 31) _ rfl
  obtain ⟨wb, hwb⟩ : ∃ z, z = w.heap.size := ⟨_, rfl⟩
  have HWB := Lib.hid hwb
  rw [← hwb] at hb0
  obtain ⟨w0, hw0⟩ : ∃ z, z = w.alloc (.cells #[.slice a0 l0 c0, .slice a1 l1 c1, .slice a2 l2 c2, .slice a3 l3 c3] 31) := ⟨_, rfl⟩
  have HW0 := Lib.hid hw0
  have hk0 : All w w0 := by rw [hw0]; exact Kept.alloc _ _ _
  rw [← hw0] at hb0
  have hs0 := hs.keep RPer.ok hk0
  have hp0 := hp.keep RPlc.ok hk0
  have hg0 := hg.keep hk0
  clear hs hp hg hwb hw0
  by_cases hbig : 300 < l1
  · have hd0 : decide ((300 : Int) < (l1 : Int)) = true := by simp; omega
    have HF := Lib.hid (peopleF_large (ps := ps) (l := l) (by have := HLEN.out; omega))
    have e1 := cell_at (i := 1) hb0 rfl
    clear hs0 hp0
    go_enter Tryz.func64, Tryz.ntmps64
    go_upto_region 1 with fail
    simp only [← HWB.out, ← HW0.out]
    go_wp2_with fail
    go_ret
    exact ⟨ret_int' HF.out.symm, hk0⟩
  have hd0 : decide ((300 : Int) < (l1 : Int)) = false := by simp; omega
  have HBIG := Lib.hid (show ¬ 300 < l.length from by have := HLEN.out; omega)
  have HPO := Lib.hid (parentsOf_any a0 l0 c0 ps w0 hp0 hl0)
  have e0 := cell_at (i := 0) hb0 rfl
  have e1 := cell_at (i := 1) hb0 rfl
  have HB0 := Lib.hid hb0
  have HS0 := Lib.hid hs0
  have HG0 := Lib.hid hg0
  have HK0 := Lib.hid hk0
  clear hb0 hs0 hp0 hg0 hk0
  go_enter Tryz.func64, Tryz.ntmps64
  go_upto_region 1 with fail
  simp only [← HWB.out, ← HW0.out]
  go_wp2_with fail
  refine HPO.out.mono ?_
  rintro e w1 ⟨mb, rfl, -, hm1, hw1⟩
  have HM := Lib.hid (fun (wx : World) (k : All w1 wx) => hm1.keep k trivial)
  have HS := Lib.hid (fun (wx : World) (k : All w1 wx) => HS0.out.keep RPer.ok (hw1.trans k))
  have HG := Lib.hid (fun (wx : World) (k : All w1 wx) => HG0.out.keep (hw1.trans k))
  have HB := Lib.hid (fun (wx : World) (k : All w1 wx) => (hw1.trans k).heap HB0.out trivial)
  have HK1 := Lib.hid (HK0.out.trans hw1)
  have e1 := cell_at (i := 1) (HB.out _ (Kept.refl _ _)) rfl
  clear hm1 HB0 HS0 HG0 HPO e0 hw1 HK0
  go_wp2_with fail
  go_loopw [24] (fun i wr => ∃ k : Nat, k ≤ l1 ∧ i = .int .i64 k ∧ ScanAt (perE ps) l k ∧ All w1 wr) (fun i _ => l1 - (intOf i).toNat)
  case atStart => exact ⟨0, Nat.zero_le _, rfl, ScanAt.zero _ _, Kept.refl _ _⟩
  case round =>
    clear e1
    obtain ⟨k, hk, rfl, hat, hall⟩ := hrel
    obtain ⟨wo, rfl⟩ : ∃ wo : World, wo = wr := ⟨_, rfl⟩
    by_cases hlt : k < l1
    · obtain ⟨b, off, x, na, nc, ha, hc, ma, mc, va, vc, haa, -, d0, d1, d2, d3, d4, hper, hx, -⟩ := (HS.out _ hall).atPer hlt
      subst haa
      have hz1 : x.key.size ≤ 1000000 := hper.small.1
      have HX := Lib.hid hx
      clear hx
      have hb9 := heap_at wo (.cells #[.string x.key, .slice na x.names.length nc, .slice ha x.homes.length hc, .slice ma x.mails.length mc, .slice va x.advs.length vc] 97) _ rfl
      obtain ⟨xb, hxb⟩ : ∃ z, z = wo.heap.size := ⟨_, rfl⟩
      have HXB := Lib.hid hxb
      rw [← hxb] at hb9
      have hall' : All w1 (wo.alloc (.cells #[.string x.key, .slice na x.names.length nc, .slice ha x.homes.length hc, .slice ma x.mails.length mc, .slice va x.advs.length vc] 97)) := hall.then_alloc _
      have hper' := hper.keep (Kept.alloc _ wo (.cells #[.string x.key, .slice na x.names.length nc, .slice ha x.homes.length hc, .slice ma x.mails.length mc, .slice va x.advs.length vc] 97))
      clear hxb hall hper
      go_upto_region 7 with fail
      simp only [← HXB.out]
      generalize wo.alloc (.cells #[.string x.key, .slice na x.names.length nc, .slice ha x.homes.length hc, .slice ma x.mails.length mc, .slice va x.advs.length vc] 97) = w9 at *
      have hall := hall'
      have hper := Lib.hid hper'
      have x0 := cell_at (i := 0) hb9 rfl
      have x1 := cell_at (i := 1) hb9 rfl
      have x2 := cell_at (i := 2) hb9 rfl
      have x3 := cell_at (i := 3) hb9 rfl
      have x4 := cell_at (i := 4) hb9 rfl
      clear hb9 d0 d1 d2 d3 d4 hall' hper'
      have b1 := cell_at (i := 1) (HB.out _ hall) rfl
      cases hky : isKeyB x.key with
      | false =>
        have HF := Lib.hid (peopleF_scan HBIG.out (hat.bad HX.out (perE_name hky) (by decide)) (by decide))
        clear hat
        go_wp2_with fail
        refine (isKey_any x.key _ (by omega)).mono ?_
        rintro e w' ⟨rfl, rfl⟩
        rw [hky]
        go_wp2_with fail
        go_ret
        exact ⟨ret_int' HF.out.symm, HK1.out.trans (by repeat (first | exact hall | refine Kept.then_drew ?_ | refine Kept.then_drewN ?_ _ | refine Kept.then_alloc ?_ _))⟩
      | true =>
      rcases k with _ | k
      · have HPF := Lib.hid (fun (wx : World) (kx : All w9 wx) => personFault_any x na nc ha hc ma mc va vc ps mb l0 wx (hper.out.keep kx) (HM.out _ (hall.trans kx)) (HG.out _ (hall.trans kx)))
        obtain ⟨z, hz⟩ : ∃ z, z = persF ps x := ⟨_, rfl⟩
        rw [← hz] at HPF
        have hin := perE_in (ps := ps) (p := prevAt l 0) hky (rfl)
        rw [← hz] at hin
        by_cases hzz : z = 0
        · have hzn : (z != 0) = false := by simpa using hzz
          have HN := Lib.hid (hat.next HX.out (hin.trans hzz))
          clear hat hin hz hzz
          have k9 : All w9 w9 := Kept.refl _ _
          go_wp2_with fail
          refine (isKey_any x.key _ (by omega)).mono ?_
          rintro e w' ⟨rfl, rfl⟩
          rw [hky]
          go_upto_region 9 with fail; go_quiet (fail); go_wp2_with fail
          refine (HPF.out _ (by repeat (first | exact Kept.refl _ _ | refine Kept.then_drew ?_ | refine Kept.then_drewN ?_ _))).mono ?_
          rintro e w4 ⟨rfl, hw4⟩
          have hall := Kept.trans (show All w1 _ from (by repeat (first | exact hall | refine Kept.then_drew ?_ | refine Kept.then_drewN ?_ _ | refine Kept.then_alloc ?_ _))) hw4
          go_wp2_with fail
          go_roundw
          case rel => exact ⟨1, by omega, rfl, HN.out, (by repeat (first | exact hall | refine Kept.then_drew ?_ | refine Kept.then_drewN ?_ _ | refine Kept.then_alloc ?_ _))⟩
          case measure => simp [intOf]; omega
        · have hzn : (z != 0) = true := by simpa using hzz
          have HF := Lib.hid (peopleF_scan HBIG.out (hat.bad HX.out hin hzz) hzz)
          clear hat hin hz hzz
          go_wp2_with fail
          refine (isKey_any x.key _ (by omega)).mono ?_
          rintro e w' ⟨rfl, rfl⟩
          rw [hky]
          go_upto_region 9 with fail; go_quiet (fail); go_wp2_with fail
          refine (HPF.out _ (by repeat (first | exact Kept.refl _ _ | refine Kept.then_drew ?_ | refine Kept.then_drewN ?_ _))).mono ?_
          rintro e w4 ⟨rfl, hw4⟩
          have hall := Kept.trans (show All w1 _ from (by repeat (first | exact hall | refine Kept.then_drew ?_ | refine Kept.then_drewN ?_ _ | refine Kept.then_alloc ?_ _))) hw4
          go_wp2_with fail
          go_ret
          exact ⟨ret_int' HF.out.symm, HK1.out.trans (by repeat (first | exact hall | refine Kept.then_drew ?_ | refine Kept.then_drewN ?_ _ | refine Kept.then_alloc ?_ _))⟩
      · have f1 : (0 : Int) ≤ (k : Int) := by omega
        have f2 : (k : Int) < (l1 : Int) := by omega
        have f3 : k < l1 := by omega
        have f4 : IntKind.i64.wrap (k : Int) = (k : Int) := IntWalk.i64_in _ (by omega)
        obtain ⟨b', off', y, -, -, -, -, -, -, -, -, haa, -, y0, -, -, -, -, -, hy, -⟩ := (HS.out _ hall).atPer (k := k) f3
        cases haa
        have f5 := lt_of_cell y0
        have hpv := Lib.hid (show prevAt l (k + 1) = some y from prevAt_succ hy)
        clear hy
        cases hle : leB x.key y.key with
        | true =>
          have hle' : (Op.bytesLess x.key.toList y.key.toList || x.key.toList == y.key.toList) = true := hle
          have he : perE ps (prevAt l (k + 1)) x = 7 := by rw [hpv.out]; exact perE_order hky hle
          have HF := Lib.hid (peopleF_scan HBIG.out (hat.bad HX.out he (by decide)) (by decide))
          clear hat hle he
          go_wp2_with fail
          refine (isKey_any x.key _ (by omega)).mono ?_
          rintro e w' ⟨rfl, rfl⟩
          rw [hky]
          go_upto_region 9 with fail
          go_quiet (fail)
          go_wp2_with fail
          go_ret
          exact ⟨ret_int' HF.out.symm, HK1.out.trans (by repeat (first | exact hall | refine Kept.then_drew ?_ | refine Kept.then_drewN ?_ _ | refine Kept.then_alloc ?_ _))⟩
        | false =>
          have hle' : (Op.bytesLess x.key.toList y.key.toList || x.key.toList == y.key.toList) = false := hle
          have HPF := Lib.hid (fun (wx : World) (kx : All w9 wx) => personFault_any x na nc ha hc ma mc va vc ps mb l0 wx (hper.out.keep kx) (HM.out _ (hall.trans kx)) (HG.out _ (hall.trans kx)))
          obtain ⟨z, hz⟩ : ∃ z, z = persF ps x := ⟨_, rfl⟩
          rw [← hz] at HPF
          have hin := perE_in (ps := ps) (p := prevAt l (k + 1)) hky (by rw [hpv.out]; exact hle)
          rw [← hz] at hin
          by_cases hzz : z = 0
          · have hzn : (z != 0) = false := by simpa using hzz
            have HN := Lib.hid (hat.next HX.out (hin.trans hzz))
            clear hat hin hz hzz
            have k9 : All w9 w9 := Kept.refl _ _
            go_wp2_with fail
            refine (isKey_any x.key _ (by omega)).mono ?_
            rintro e w' ⟨rfl, rfl⟩
            rw [hky]
            go_upto_region 9 with fail; go_quiet (fail); go_wp2_with fail
            refine (HPF.out _ (by repeat (first | exact Kept.refl _ _ | refine Kept.then_drew ?_ | refine Kept.then_drewN ?_ _))).mono ?_
            rintro e w4 ⟨rfl, hw4⟩
            have hall := Kept.trans (show All w1 _ from (by repeat (first | exact hall | refine Kept.then_drew ?_ | refine Kept.then_drewN ?_ _ | refine Kept.then_alloc ?_ _))) hw4
            go_wp2_with fail
            go_roundw
            case rel => exact ⟨k + 1 + 1, by omega, by go_num, HN.out, (by repeat (first | exact hall | refine Kept.then_drew ?_ | refine Kept.then_drewN ?_ _ | refine Kept.then_alloc ?_ _))⟩
            case measure => simp [intOf]; omega
          · have hzn : (z != 0) = true := by simpa using hzz
            have HF := Lib.hid (peopleF_scan HBIG.out (hat.bad HX.out hin hzz) hzz)
            clear hat hin hz hzz
            go_wp2_with fail
            refine (isKey_any x.key _ (by omega)).mono ?_
            rintro e w' ⟨rfl, rfl⟩
            rw [hky]
            go_upto_region 9 with fail; go_quiet (fail); go_wp2_with fail
            refine (HPF.out _ (by repeat (first | exact Kept.refl _ _ | refine Kept.then_drew ?_ | refine Kept.then_drewN ?_ _))).mono ?_
            rintro e w4 ⟨rfl, hw4⟩
            have hall := Kept.trans (show All w1 _ from (by repeat (first | exact hall | refine Kept.then_drew ?_ | refine Kept.then_drewN ?_ _ | refine Kept.then_alloc ?_ _))) hw4
            go_wp2_with fail
            go_ret
            exact ⟨ret_int' HF.out.symm, HK1.out.trans (by repeat (first | exact hall | refine Kept.then_drew ?_ | refine Kept.then_drewN ?_ _ | refine Kept.then_alloc ?_ _))⟩
    · have hd : decide ((k : Int) < (l1 : Int)) = false := by simp; omega
      have HSC := Lib.hid (hat.ok (by have := HLEN.out; omega))
      have HKO := Lib.hid (keysOf_any a0 l0 c0 a1 l1 c1 a2 l2 c2 a3 l3 c3 l wo (HS.out _ hall) hl)
      have e0 := cell_at (i := 0) (HB.out _ hall) rfl
      have e1 := cell_at (i := 1) (HB.out _ hall) rfl
      have e2 := cell_at (i := 2) (HB.out _ hall) rfl
      have e3 := cell_at (i := 3) (HB.out _ hall) rfl
      clear hat HM
      go_wp2_with fail
      refine HKO.out.mono ?_
      rintro e w2 ⟨kb, rfl, -, hm2, hw2⟩
      have HALL2 := Lib.hid (hall.trans hw2)
      have HM2 := Lib.hid hm2
      have e1 := cell_at (i := 1) (HB.out _ HALL2.out) rfl
      clear hall hw2 hm2 HKO e0 e2 e3 hk hd hlt
      go_wp2_with fail
      go_loopw [59] (fun i wr => ∃ k : Nat, k ≤ l1 ∧ i = .int .i64 k ∧ (l.take k).any (fun p => p.advs.any fun a => !hasK l a) = false ∧ All w2 wr) (fun i _ => l1 - (intOf i).toNat)
      case atStart => exact ⟨0, Nat.zero_le _, rfl, rfl, Kept.refl _ _⟩
      case round =>
        clear e1
        obtain ⟨k, hk, rfl, hno, hall⟩ := hrel
        obtain ⟨wo, rfl⟩ : ∃ wo : World, wo = wr := ⟨_, rfl⟩
        by_cases hlt : k < l1
        · have hall0 := HALL2.out.trans hall
          obtain ⟨b, off, x, na, nc, ha, hc, ma, mc, va, vc, haa, -, d0, d1, d2, d3, d4, hper, hx, -⟩ := (HS.out _ hall0).atPer hlt
          subst haa
          have HX := Lib.hid hx
          have hb9 := heap_at wo (.cells #[.string x.key, .slice na x.names.length nc, .slice ha x.homes.length hc, .slice ma x.mails.length mc, .slice va x.advs.length vc] 97) _ rfl
          obtain ⟨xb, hxb⟩ : ∃ z, z = wo.heap.size := ⟨_, rfl⟩
          have HXB := Lib.hid hxb
          rw [← hxb] at hb9
          have hk9 : All w2 (wo.alloc (.cells #[.string x.key, .slice na x.names.length nc, .slice ha x.homes.length hc, .slice ma x.mails.length mc, .slice va x.advs.length vc] 97)) := hall.then_alloc _
          have HAD := Lib.hid (hper.keep (Kept.alloc (fun _ => True) wo (.cells #[.string x.key, .slice na x.names.length nc, .slice ha x.homes.length hc, .slice ma x.mails.length mc, .slice va x.advs.length vc] 97))).radvs
          have hav : x.advs.length ≤ 1000 := hper.small.2.2.2.2
          have HNO := Lib.hid hno
          clear hx hxb hall hper hall0 hno
          go_upto_region 19 with fail
          simp only [← HXB.out]
          generalize wo.alloc (.cells #[.string x.key, .slice na x.names.length nc, .slice ha x.homes.length hc, .slice ma x.mails.length mc, .slice va x.advs.length vc] 97) = w9 at *
          have x4 := cell_at (i := 4) hb9 rfl
          clear hb9 d0 d1 d2 d3 d4
          go_wp2_with fail
          go_loopw [66] (fun i wr => ∃ j : Nat, j ≤ x.advs.length ∧ i = .int .i64 j ∧ (x.advs.take j).any (fun a => !hasK l a) = false ∧ All w9 wr) (fun i _ => x.advs.length - (intOf i).toNat)
          case atStart => exact ⟨0, Nat.zero_le _, rfl, rfl, Kept.refl _ _⟩
          case round =>
            clear x4
            obtain ⟨j, hj, rfl, hno, hall⟩ := hrel
            obtain ⟨wi, rfl⟩ : ∃ wi : World, wi = wr := ⟨_, rfl⟩
            by_cases hjl : j < x.advs.length
            · obtain ⟨b', off', s, ha', -, c0, hsz, hs, -, -⟩ := (HAD.out.keep RStr.ok hall).atStr hjl
              subst ha'
              have HS2 := Lib.hid hs
              have hlk := ((HM2.out.keep hk9 trivial).keep hall trivial).look_ok Tryz.underlying9 Tryz.underlying106 (Tryz.zeroValue3 _) s hsz
              rw [keyV_some] at hlk
              clear hs
              cases hkk : hasK l s with
              | false =>
                have HF := Lib.hid (peopleF_none HBIG.out HSC.out (any_hit HX.out (any_hit HS2.out (by simp [hkk]))))
                rw [hkk] at hlk
                have HKK := Lib.hid (HK1.out.trans (HALL2.out.trans (hk9.trans hall)))
                clear hno hkk hk9
                go_wp2_with fail
                go_ret
                exact ⟨ret_int' HF.out.symm, by first | exact HKK.out | exact HKK.out.trans (Kept.refl _ _) | exact HKK.out.then_drew | (refine Kept.then_drew ?_; exact HKK.out)⟩
              | true =>
                have HN := Lib.hid (any_next hno HS2.out (by simp [hkk]))
                rw [hkk] at hlk
                clear hno hkk
                go_wp2_with fail
                go_roundw
                case rel => exact ⟨j + 1, by omega, by go_num, HN.out, (by repeat (first | exact hall | refine Kept.then_drew ?_ | refine Kept.then_drewN ?_ _ | refine Kept.then_alloc ?_ _))⟩
                case measure => simp [intOf]; omega
            · have hd : decide ((j : Int) < (x.advs.length : Int)) = false := by simp; omega
              have HN := Lib.hid (any_next HNO.out HX.out (by rw [List.take_of_length_le (by omega)] at hno; exact hno))
              clear hno
              go_wp2_with fail
              go_roundw
              case rel => exact ⟨k + 1, by omega, by go_num, HN.out, hk9.trans hall⟩
              case measure => simp [intOf]; omega
        · have hd : decide ((k : Int) < (l1 : Int)) = false := by simp; omega
          have HF := Lib.hid (peopleF_ok HBIG.out HSC.out (by rw [List.take_of_length_le (by have := HLEN.out; omega)] at hno; exact hno))
          clear hno
          go_wp2_with fail
          go_ret
          exact ⟨ret_int' HF.out.symm, HK1.out.trans (HALL2.out.trans hall)⟩
end Go.Proofs.YtgobnlgmbplggaaGreatDoor

/- bondsFault of the program. -/
namespace Go.Proofs.YtgobnlgmbplggaaGreatDoor
open Go.RowKit

section
variable {ps : List Per} {l : List Bnd} {k : Nat} {x : Bnd} {p : Option Bnd}
theorem bndE_none (h : hasK ps x.a = false ∨ hasK ps x.b = false) : bndE ps p x = 8 := by rw [bndE, if_pos h]
theorem bndE_order (h : hasK ps x.a = true) (h2 : hasK ps x.b = true) (h3 : leB x.b x.a = true ∨ notOver cfB p x = true) : bndE ps p x = 7 := by rw [bndE, if_neg (by rw [h, h2]; decide), if_pos h3]
theorem bndE_ok (h : hasK ps x.a = true) (h2 : hasK ps x.b = true) (h3 : leB x.b x.a = false) (h4 : notOver cfB p x = false) : bndE ps p x = 0 := by rw [bndE, if_neg (by rw [h, h2]; decide), if_neg (by rw [h3, h4]; decide)]
theorem bondsF_large (h : 1000 < l.length) : bondsF ps l = 2 := by rw [bondsF, if_pos h]
theorem bondsF_scan (h : ¬ 1000 < l.length) : bondsF ps l = scanF (bndE ps) none l := by rw [bondsF, if_neg h]
end
set_option maxRecDepth 100000 in
set_option maxHeartbeats 12800000 in
theorem bondsFault_any (a : Option Addr) (len cap : Nat) (l : List Bnd) (ps : List Per) (mb n : Nat) (w : World) (hs : Sl RBnd 2 (fun _ => True) w a len l) (hl : len ≤ 100000) (hm : MapS Tryz.prog 9 w mb n (keyV ps)) :
    Calls Tryz.prog 67 #[.slice a len cap, .map (some mb)] w fun e w' => e = .returned (.int .i64 (bondsF ps l)) ∧ All w w' := by
  have HLEN := Lib.hid hs.len
  by_cases hbig : 1000 < len
  · have hd0 : decide ((1000 : Int) < (len : Int)) = true := by simp; omega
    have HF := Lib.hid (bondsF_large (ps := ps) (l := l) (by have := HLEN.out; omega))
    clear hs hm
    go_enter Tryz.func67, Tryz.ntmps67
    go_wp2_with fail
    go_ret
    exact ⟨ret_int' HF.out.symm, Kept.refl _ _⟩
  have hd0 : decide ((1000 : Int) < (len : Int)) = false := by simp; omega
  have HSC := Lib.hid (bondsF_scan (ps := ps) (l := l) (by have := HLEN.out; omega))
  have HS := Lib.hid (fun (wx : World) (k : All w wx) => hs.keep RBnd.ok k)
  have HM := Lib.hid (fun (wx : World) (k : All w wx) => hm.keep k trivial)
  clear hs hm
  go_enter Tryz.func67, Tryz.ntmps67
  go_wp2_with fail
  go_loopw [16] (fun i wr => ∃ k : Nat, k ≤ len ∧ i = .int .i64 k ∧ ScanAt (bndE ps) l k ∧ All w wr) (fun i _ => len - (intOf i).toNat)
  case atStart => exact ⟨0, Nat.zero_le _, rfl, ScanAt.zero _ _, Kept.refl _ _⟩
  case round =>
    obtain ⟨k, hk, rfl, hat, hall⟩ := hrel
    obtain ⟨wo, rfl⟩ : ∃ wo : World, wo = wr := ⟨_, rfl⟩
    by_cases hlt : k < len
    · obtain ⟨b, off, x, ha, -, c0, c1, ⟨hx1, hx2⟩, hx, -⟩ := (HS.out _ hall).atBnd hlt
      subst ha
      have HX := Lib.hid hx
      clear hx
      have hb9 := heap_at wo (.cells #[.string x.a, .string x.b] 75) _ rfl
      obtain ⟨xb, hxb⟩ : ∃ z, z = wo.heap.size := ⟨_, rfl⟩
      have HXB := Lib.hid hxb
      rw [← hxb] at hb9
      have hall' : All w (wo.alloc (.cells #[.string x.a, .string x.b] 75)) := hall.then_alloc _
      have hla := ((HM.out _ hall').look_ok Tryz.underlying9 Tryz.underlying106 (Tryz.zeroValue3 _) x.a hx1)
      have hlb := ((HM.out _ hall').look_ok Tryz.underlying9 Tryz.underlying106 (Tryz.zeroValue3 _) x.b hx2)
      rw [keyV_some] at hla hlb
      clear hxb hall
      go_upto_region 6 with fail
      simp only [← HXB.out]
      generalize wo.alloc (.cells #[.string x.a, .string x.b] 75) = w9 at *
      have hall := hall'
      have e0 := cell_at (i := 0) hb9 rfl
      have e1 := cell_at (i := 1) hb9 rfl
      clear hb9 c0 c1 hall'
      by_cases hno : hasK ps x.a = false ∨ hasK ps x.b = false
      · have HF := Lib.hid (show bondsF ps l = 8 from by rw [HSC.out]; exact hat.bad HX.out (bndE_none hno) (by decide))
        clear hat
        have HNO := Lib.hid hno
        clear hno
        cases hka : hasK ps x.a with
        | false =>
          rw [hka] at hla
          clear hka HNO
          generalize hasK ps x.b = v at *
          cases v <;> (go_wp2_with fail; go_ret; exact ⟨ret_int' HF.out.symm, (by repeat (first | exact hall | refine Kept.then_drew ?_ | refine Kept.then_drewN ?_ _ | refine Kept.then_alloc ?_ _))⟩)
        | true =>
          have hkb : hasK ps x.b = false := HNO.out.elim (fun h => by rw [hka] at h; exact nomatch h) id
          rw [hka] at hla
          rw [hkb] at hlb
          clear hka hkb HNO
          go_wp2_with fail
          go_ret
          exact ⟨ret_int' HF.out.symm, (by repeat (first | exact hall | refine Kept.then_drew ?_ | refine Kept.then_drewN ?_ _ | refine Kept.then_alloc ?_ _))⟩
      have hka : hasK ps x.a = true := by cases h : hasK ps x.a; exact absurd (Or.inl h) hno; rfl
      have hkb : hasK ps x.b = true := by cases h : hasK ps x.b; exact absurd (Or.inr h) hno; rfl
      rw [hka] at hla
      rw [hkb] at hlb
      have HKA := Lib.hid hka
      have HKB := Lib.hid hkb
      clear hno hka hkb
      cases hab : leB x.b x.a with
      | true =>
        have hab' : (Op.bytesLess x.b.toList x.a.toList || x.b.toList == x.a.toList) = true := hab
        have HF := Lib.hid (show bondsF ps l = 7 from by rw [HSC.out]; exact hat.bad HX.out (bndE_order HKA.out HKB.out (Or.inl hab)) (by decide))
        clear hat hab
        go_upto_region 10 with fail
        go_quiet (fail)
        go_wp2_with fail
        go_ret
        exact ⟨ret_int' HF.out.symm, (by repeat (first | exact hall | refine Kept.then_drew ?_ | refine Kept.then_drewN ?_ _ | refine Kept.then_alloc ?_ _))⟩
      | false =>
      have HAB := Lib.hid hab
      have hab' : (Op.bytesLess x.b.toList x.a.toList || x.b.toList == x.a.toList) = false := hab
      clear hab
      rcases k with _ | k
      · have HN := Lib.hid (hat.next HX.out (bndE_ok HKA.out HKB.out HAB.out rfl))
        clear hat
        go_upto_region 10 with fail
        go_quiet (fail)
        go_wp2_with fail
        go_roundw
        case rel => exact ⟨1, by omega, rfl, HN.out, (by repeat (first | exact hall | refine Kept.then_drew ?_ | refine Kept.then_drewN ?_ _ | refine Kept.then_alloc ?_ _))⟩
        case measure => simp [intOf]; omega
      · have f1 : (0 : Int) ≤ (k : Int) := by omega
        have f2 : (k : Int) < (len : Int) := by omega
        have f3 : k < len := by omega
        have f4 : IntKind.i64.wrap (k : Int) = (k : Int) := IntWalk.i64_in _ (by omega)
        obtain ⟨b', off', y, ha', -, d0, d4, -, hy, -⟩ := (HS.out _ hall).atBnd (k := k) f3
        cases ha'
        have f5 := lt_of_cell d0
        have hpv := Lib.hid (show prevAt l (k + 1) = some y from prevAt_succ hy)
        have HCMP := Lib.hid (fun (wx : World) => compareBonds_any y x wx)
        clear hy
        obtain ⟨z, hz⟩ : ∃ z, z = cfB y x := ⟨_, rfl⟩
        rw [← hz] at HCMP
        by_cases hup : 0 ≤ z
        · have g0 : decide ((0 : Int) ≤ z) = true := by simpa using hup
          have he : bndE ps (prevAt l (k + 1)) x = 7 := by rw [hpv.out]; exact bndE_order HKA.out HKB.out (Or.inr (by show decide (0 ≤ cfB y x) = true; rw [← hz]; exact g0))
          have HF := Lib.hid (show bondsF ps l = 7 from by rw [HSC.out]; exact hat.bad HX.out he (by decide))
          clear hat hup he hz
          go_upto_region 10 with fail
          go_region_held3 (fun w' => w'.cell? ⟨b, off + k * 2, none⟩ = some (.string y.a) ∧ w'.cell? ⟨b, off + k * 2 + 1, none⟩ = some (.string y.b) ∧ w'.cell? ⟨xb, 0, none⟩ = some (.string x.a) ∧ w'.cell? ⟨xb, 1, none⟩ = some (.string x.b)) (first | exact ⟨d0, d4, e0, e1⟩ | exact ⟨m0, m1, m2, m3⟩ | go_keep) (first | (go_at_call 89; refine (HCMP.out _).mono ?_; rintro e wa ⟨rfl, hwa⟩; have m0 := hwa.1.cell d0 trivial; have m1 := hwa.1.cell d4 trivial; have m2 := hwa.1.cell e0 trivial; have m3 := hwa.1.cell e1 trivial; have hall := Kept.trans (show All w _ from (by repeat (first | exact hall | refine Kept.then_drew ?_ | refine Kept.then_drewN ?_ _ | refine Kept.then_alloc ?_ _))) hwa.1))
          go_wp2_with fail
          go_ret
          exact ⟨ret_int' HF.out.symm, (by repeat (first | exact hall | refine Kept.then_drew ?_ | refine Kept.then_drewN ?_ _ | refine Kept.then_alloc ?_ _))⟩
        · have g0 : decide ((0 : Int) ≤ z) = false := by simpa using hup
          have he : bndE ps (prevAt l (k + 1)) x = 0 := by rw [hpv.out]; exact bndE_ok HKA.out HKB.out HAB.out (by show decide (0 ≤ cfB y x) = false; rw [← hz]; exact g0)
          have HN := Lib.hid (hat.next HX.out he)
          clear hat hup he hz
          go_upto_region 10 with fail
          go_region_held3 (fun w' => w'.cell? ⟨b, off + k * 2, none⟩ = some (.string y.a) ∧ w'.cell? ⟨b, off + k * 2 + 1, none⟩ = some (.string y.b) ∧ w'.cell? ⟨xb, 0, none⟩ = some (.string x.a) ∧ w'.cell? ⟨xb, 1, none⟩ = some (.string x.b)) (first | exact ⟨d0, d4, e0, e1⟩ | exact ⟨m0, m1, m2, m3⟩ | go_keep) (first | (go_at_call 89; refine (HCMP.out _).mono ?_; rintro e wa ⟨rfl, hwa⟩; have m0 := hwa.1.cell d0 trivial; have m1 := hwa.1.cell d4 trivial; have m2 := hwa.1.cell e0 trivial; have m3 := hwa.1.cell e1 trivial; have hall := Kept.trans (show All w _ from (by repeat (first | exact hall | refine Kept.then_drew ?_ | refine Kept.then_drewN ?_ _ | refine Kept.then_alloc ?_ _))) hwa.1))
          go_wp2_with fail
          go_roundw
          case rel => exact ⟨k + 1 + 1, by omega, by go_num, HN.out, (by repeat (first | exact hall | refine Kept.then_drew ?_ | refine Kept.then_drewN ?_ _ | refine Kept.then_alloc ?_ _))⟩
          case measure => simp [intOf]; omega
    · have hd : decide ((k : Int) < (len : Int)) = false := by simp; omega
      have HF := Lib.hid (show bondsF ps l = 0 from by rw [HSC.out]; exact hat.ok (by have := HLEN.out; omega))
      clear hat
      go_wp2_with fail
      go_ret
      exact ⟨ret_int' HF.out.symm, hall⟩
end Go.Proofs.YtgobnlgmbplggaaGreatDoor

/- slices.Compare of strings at lists of any lengths. -/
namespace Go.Proofs.YtgobnlgmbplggaaGreatDoor
open Go.RowKit

set_option maxHeartbeats 1600000 in
theorem compareSS_any (a1 : Option Addr) (n c1 : Nat) (a2 : Option Addr) (m c2 : Nat) (ss ts : List ByteArray) (w : World) (hs : Sl RStr 1 (fun _ => True) w a1 n ss) (ht : Sl RStr 1 (fun _ => True) w a2 m ts) (hl : n ≤ 1000000) (_hm : m ≤ 1000000) :
    Calls Tryz.prog 174 #[.slice a1 n c1, .slice a2 m c2] w fun e w' => e = .returned (.int .i64 (cmpS ss ts)) ∧ w = w' := by
  have Hs := Lib.hid hs.len
  have Ht := Lib.hid ht.len
  go_enter Tryz.func174, Tryz.ntmps174
  go_wp2_with fail
  go_loop [11] (fun i => ∃ k : Nat, k ≤ n ∧ k ≤ m ∧ i = .int .i64 k ∧ cmpS ss ts = cmpS (ss.drop k) (ts.drop k)) (fun i => n - (intOf i).toNat)
  case atStart => exact ⟨0, Nat.zero_le _, Nat.zero_le _, rfl, by simp⟩
  case round =>
    obtain ⟨k, hk, hkm, rfl, hat⟩ := hrel
    have HA := Lib.hid hat
    clear hat
    by_cases hlt : k < n
    · obtain ⟨b1, o1, y1, ha1, -, cy1, -, hy1, -, -⟩ := hs.atStr hlt
      subst ha1
      by_cases hmk : k < m
      · obtain ⟨b2, o2, y2, ha2, -, cy2, -, hy2, -, -⟩ := ht.atStr hmk
        subst ha2
        have hge : decide ((m : Int) ≤ (k : Int)) = false := by simp; omega
        have HY := Lib.hid (And.intro hy1 hy2)
        clear hy1 hy2
        by_cases h0 : Lib.compareBytes y1.data.toList y2.data.toList = 0
        · have hn := Lib.hid (show cmpS ss ts = cmpS (ss.drop (k + 1)) (ts.drop (k + 1)) by rw [HA.out, drop_at HY.out.1, drop_at HY.out.2, cmpS, if_neg (by simp [h0])])
          go_wp2_with fail
          refine (cmpStr_any _ _ _).mono ?_
          rintro e w' ⟨rfl, rfl⟩
          rw [h0]
          clear h0
          go_wp2_with fail
          go_round
          case rel => exact ⟨k + 1, by omega, by omega, by go_num, hn.out⟩
          case measure => simp [intOf]; omega
        · have hn := Lib.hid (show cmpS ss ts = Lib.compareBytes y1.data.toList y2.data.toList by rw [HA.out, drop_at HY.out.1, drop_at HY.out.2, cmpS, if_pos h0])
          have hne : (Lib.compareBytes y1.data.toList y2.data.toList != 0) = true := by simpa using h0
          go_wp2_with fail
          refine (cmpStr_any _ _ _).mono ?_
          rintro e w' ⟨rfl, rfl⟩
          clear h0
          go_wp2_with fail
          go_ret
          exact ⟨ret_int' hn.out.symm, rfl⟩
      · have hge : decide ((m : Int) ≤ (k : Int)) = true := by simp; omega
        have hn := Lib.hid (show cmpS ss ts = 1 by rw [HA.out, drop_at hy1, List.drop_of_length_le (l := ts) (by have := Ht.out; omega)]; rfl)
        clear hy1
        go_wp2_with fail
        go_ret
        exact ⟨ret_int' hn.out.symm, rfl⟩
    · have hd : decide ((k : Int) < (n : Int)) = false := by simp; omega
      by_cases hnm : n < m
      · have hd2 : decide ((n : Int) < (m : Int)) = true := by simp; omega
        have hn := Lib.hid (show cmpS ss ts = -1 by
          rw [HA.out, List.drop_of_length_le (l := ss) (by have := Hs.out; omega)]
          rcases hdt : ts.drop k with _ | ⟨t, l⟩
          · have h1 := congrArg List.length hdt
            rw [List.length_drop, List.length_nil] at h1
            have := Ht.out
            omega
          · rfl)
        go_wp2_with fail
        go_ret
        exact ⟨ret_int' hn.out.symm, rfl⟩
      · have hd2 : decide ((n : Int) < (m : Int)) = false := by simp; omega
        have hn := Lib.hid (show cmpS ss ts = 0 by rw [HA.out, List.drop_of_length_le (by have := Hs.out; omega), List.drop_of_length_le (by have := Ht.out; omega)]; rfl)
        go_wp2_with fail
        go_ret
        exact ⟨ret_int' hn.out.symm, rfl⟩
end Go.Proofs.YtgobnlgmbplggaaGreatDoor

/- compareWorks. -/
namespace Go.Proofs.YtgobnlgmbplggaaGreatDoor
open Go.RowKit Go.Sort

theorem orL_cfW (x y : Wrk) : orL [cmpN x.day y.day, cmpS x.authors y.authors] = cfW x y := orL_lex2 (fun x y : Wrk => cmpN x.day y.day) (fun x y => cmpS x.authors y.authors) x y

set_option maxRecDepth 100000 in
set_option maxHeartbeats 12800000 in
theorem compareWorks_any (x y : Wrk) (ax : Option Addr) (cx : Nat) (ay : Option Addr) (cy : Nat) (w : World) (hx : WrkIs (fun _ => True) w x ax cx) (hy : WrkIs (fun _ => True) w y ay cy) (hlx : x.authors.length ≤ 1000000) (hly : y.authors.length ≤ 1000000) :
    Calls Tryz.prog 140 #[.agg #[.int .i64 x.day, .slice ax x.authors.length cx], .agg #[.int .i64 y.day, .slice ay y.authors.length cy]] w fun e w' => e = .returned (.int .i64 (cfW x y)) ∧ AllD w w' := by
  have hk1 : AllD w ((w.alloc (.cells #[.int .i64 x.day, .slice ax x.authors.length cx] 105)).alloc (.cells #[.int .i64 y.day, .slice ay y.authors.length cy] 105)) := ((AllD.refl w).then_alloc _).then_alloc _
  have hbx := (Kept.alloc (fun _ => True) (w.alloc (.cells #[.int .i64 x.day, .slice ax x.authors.length cx] 105)) (.cells #[.int .i64 y.day, .slice ay y.authors.length cy] 105)).heap (heap_at w (.cells #[.int .i64 x.day, .slice ax x.authors.length cx] 105) _ rfl) trivial
  have hby := heap_at (w.alloc (.cells #[.int .i64 x.day, .slice ax x.authors.length cx] 105)) (.cells #[.int .i64 y.day, .slice ay y.authors.length cy] 105) _ rfl
  obtain ⟨bx, hbx'⟩ : ∃ b, b = w.heap.size := ⟨_, rfl⟩
  obtain ⟨by', hby'⟩ : ∃ b, b = (w.alloc (.cells #[.int .i64 x.day, .slice ax x.authors.length cx] 105)).heap.size := ⟨_, rfl⟩
  have hyx : by' = bx + 1 := by rw [hby', hbx']; simp
  rw [← hbx'] at hbx
  rw [← hby'] at hby
  have HAX := Lib.hid (fun (wx : World) (k : All ((w.alloc (.cells #[.int .i64 x.day, .slice ax x.authors.length cx] 105)).alloc (.cells #[.int .i64 y.day, .slice ay y.authors.length cy] 105)) wx) => (hx.keep (hk1.1.trans k)).rauthors)
  have HAY := Lib.hid (fun (wx : World) (k : All ((w.alloc (.cells #[.int .i64 x.day, .slice ax x.authors.length cx] 105)).alloc (.cells #[.int .i64 y.day, .slice ay y.authors.length cy] 105)) wx) => (hy.keep (hk1.1.trans k)).rauthors)
  have HCbx := Lib.hid (fun (wx : World) (k : All ((w.alloc (.cells #[.int .i64 x.day, .slice ax x.authors.length cx] 105)).alloc (.cells #[.int .i64 y.day, .slice ay y.authors.length cy] 105)) wx) => (⟨k.cell (cell_at (i := 0) hbx rfl) trivial, k.cell (cell_at (i := 1) hbx rfl) trivial⟩ : _ ∧ _))
  have HCby' := Lib.hid (fun (wx : World) (k : All ((w.alloc (.cells #[.int .i64 x.day, .slice ax x.authors.length cx] 105)).alloc (.cells #[.int .i64 y.day, .slice ay y.authors.length cy] 105)) wx) => (⟨k.cell (cell_at (i := 0) hby rfl) trivial, k.cell (cell_at (i := 1) hby rfl) trivial⟩ : _ ∧ _))
  have HBX := Lib.hid hbx'
  have HYX := Lib.hid hyx
  clear hbx hby hbx' hby' hyx hx hy
  have HW := Lib.hid (orL_cfW x y)
  go_enter Tryz.func140, Tryz.ntmps140
  go_wp2_with fail
  simp only [← HBX.out]
  simp only [← HYX.out]
  generalize (w.alloc (.cells #[.int .i64 x.day, .slice ax x.authors.length cx] 105)).alloc (.cells #[.int .i64 y.day, .slice ay y.authors.length cy] 105) = w1 at *
  refine wp_region_inv 12 (by kernel_rfl) (by kernel_rfl) (by kernel_rfl) (fun _ wx => AllD w1 wx)
    (DL [QIs (.pointer (some ⟨bx, 0, none⟩)), QIs (.int .i64 x.day), QIs (.pointer (some ⟨by', 0, none⟩)), QIs (.int .i64 y.day), QIs (.int .i64 (cmpN x.day y.day)), QIs (.pointer (some ⟨bx, 1, none⟩)), QIs (.slice ax x.authors.length cx), QIs (.pointer (some ⟨by', 1, none⟩)), QIs (.slice ay y.authors.length cy), QIs (.int .i64 (cmpS x.authors y.authors)), QRowN #[Value.int .i64 (cmpN x.day y.day), Value.int .i64 (cmpS x.authors y.authors)] 3 2, QIs (.int .i64 (cfW x y))]) AllD
    (DL.keep (by simp only [List.forall_mem_cons, List.not_mem_nil, false_implies, implies_true, and_true]; exact ⟨QIs.staysD _, QIs.staysD _, QIs.staysD _, QIs.staysD _, QIs.staysD _, QIs.staysD _, QIs.staysD _, QIs.staysD _, QIs.staysD _, QIs.staysD _, QRowN.staysD _ _ _, QIs.staysD _⟩)) ?_ ?_ ?_
  · exact (AllD.refl _).then_drew
  · intro i o t ho hd hi k' a' wx hk' hg hdf hts hoth hdeps
    have hz : i = 0 ∨ i = 1 ∨ i = 2 ∨ i = 3 ∨ i = 4 ∨ i = 5 ∨ i = 6 ∨ i = 7 ∨ i = 8 ∨ i = 9 ∨ i = 10 ∨ i = 11 := by omega
    rcases hz with rfl | rfl | rfl | rfl | rfl | rfl | rfl | rfl | rfl | rfl | rfl | rfl
    · obtain rfl := Option.some.inj ho
      obtain rfl := Option.some.inj hd
      have e0 : a'.tmps.getD 2 undef = .pointer (some ⟨bx, 0, none⟩) := tmp_of ((hoth 2 (by decide)).trans rfl)
      clear hoth hdeps hdf hts ho
      refine wp_via (fun K' hK => ?_)
      have HK := Lib.hid hK
      clear hK
      go_simp
      exact HK.out _ _ ⟨_, rfl, hg, AllD.refl _, rfl⟩
    · obtain rfl := Option.some.inj ho
      obtain rfl := Option.some.inj hd
      have e0 : a'.tmps.getD 5 undef = .pointer (some ⟨bx, 0, none⟩) := hdeps 0 (by decide) 5 rfl
      have c0 := (HCbx.out _ hg.1).1
      clear hoth hdeps hdf hts ho
      refine wp_via (fun K' hK => ?_)
      have HK := Lib.hid hK
      clear hK
      go_simp
      exact HK.out _ _ ⟨_, rfl, hg, AllD.refl _, rfl⟩
    · obtain rfl := Option.some.inj ho
      obtain rfl := Option.some.inj hd
      have e0 : a'.tmps.getD 3 undef = .pointer (some ⟨by', 0, none⟩) := tmp_of ((hoth 3 (by decide)).trans rfl)
      clear hoth hdeps hdf hts ho
      refine wp_via (fun K' hK => ?_)
      have HK := Lib.hid hK
      clear hK
      go_simp
      exact HK.out _ _ ⟨_, rfl, hg, AllD.refl _, rfl⟩
    · obtain rfl := Option.some.inj ho
      obtain rfl := Option.some.inj hd
      have e0 : a'.tmps.getD 7 undef = .pointer (some ⟨by', 0, none⟩) := hdeps 2 (by decide) 7 rfl
      have c0 := (HCby'.out _ hg.1).1
      clear hoth hdeps hdf hts ho
      refine wp_via (fun K' hK => ?_)
      have HK := Lib.hid hK
      clear hK
      go_simp
      exact HK.out _ _ ⟨_, rfl, hg, AllD.refl _, rfl⟩
    · obtain rfl := Option.some.inj ho
      obtain rfl := Option.some.inj hd
      have e0 : a'.tmps.getD 6 undef = .int .i64 x.day := hdeps 1 (by decide) 6 rfl
      have e1 : a'.tmps.getD 8 undef = .int .i64 y.day := hdeps 3 (by decide) 8 rfl
      clear hoth hdeps hdf hts ho
      refine wp_via (fun K' hK => ?_)
      have HK := Lib.hid hK
      clear hK
      go_simp
      refine (compareN_any _ _ _).mono ?_
      rintro e w4 ⟨rfl, hw4⟩
      subst hw4
      exact HK.out _ _ ⟨_, rfl, hg, AllD.refl _, rfl⟩
    · obtain rfl := Option.some.inj ho
      obtain rfl := Option.some.inj hd
      have e0 : a'.tmps.getD 2 undef = .pointer (some ⟨bx, 0, none⟩) := tmp_of ((hoth 2 (by decide)).trans rfl)
      clear hoth hdeps hdf hts ho
      refine wp_via (fun K' hK => ?_)
      have HK := Lib.hid hK
      clear hK
      go_simp
      exact HK.out _ _ ⟨_, rfl, hg, AllD.refl _, rfl⟩
    · obtain rfl := Option.some.inj ho
      obtain rfl := Option.some.inj hd
      have e0 : a'.tmps.getD 10 undef = .pointer (some ⟨bx, 1, none⟩) := hdeps 5 (by decide) 10 rfl
      have c0 := (HCbx.out _ hg.1).2
      clear hoth hdeps hdf hts ho
      refine wp_via (fun K' hK => ?_)
      have HK := Lib.hid hK
      clear hK
      go_simp
      exact HK.out _ _ ⟨_, rfl, hg, AllD.refl _, rfl⟩
    · obtain rfl := Option.some.inj ho
      obtain rfl := Option.some.inj hd
      have e0 : a'.tmps.getD 3 undef = .pointer (some ⟨by', 0, none⟩) := tmp_of ((hoth 3 (by decide)).trans rfl)
      clear hoth hdeps hdf hts ho
      refine wp_via (fun K' hK => ?_)
      have HK := Lib.hid hK
      clear hK
      go_simp
      exact HK.out _ _ ⟨_, rfl, hg, AllD.refl _, rfl⟩
    · obtain rfl := Option.some.inj ho
      obtain rfl := Option.some.inj hd
      have e0 : a'.tmps.getD 12 undef = .pointer (some ⟨by', 1, none⟩) := hdeps 7 (by decide) 12 rfl
      have c0 := (HCby'.out _ hg.1).2
      clear hoth hdeps hdf hts ho
      refine wp_via (fun K' hK => ?_)
      have HK := Lib.hid hK
      clear hK
      go_simp
      exact HK.out _ _ ⟨_, rfl, hg, AllD.refl _, rfl⟩
    · obtain rfl := Option.some.inj ho
      obtain rfl := Option.some.inj hd
      have e0 : a'.tmps.getD 11 undef = .slice ax x.authors.length cx := hdeps 6 (by decide) 11 rfl
      have e1 : a'.tmps.getD 13 undef = .slice ay y.authors.length cy := hdeps 8 (by decide) 13 rfl
      have HS := Lib.hid (compareSS_any ax x.authors.length cx ay y.authors.length cy x.authors y.authors wx (HAX.out _ hg.1) (HAY.out _ hg.1) hlx hly)
      clear hoth hdeps hdf hts ho
      refine wp_via (fun K' hK => ?_)
      have HK := Lib.hid hK
      clear hK
      go_simp
      refine HS.out.mono ?_
      rintro e w4 ⟨rfl, hw4⟩
      subst hw4
      exact HK.out _ _ ⟨_, rfl, hg, AllD.refl _, rfl⟩
    · obtain rfl := Option.some.inj ho
      obtain rfl := Option.some.inj hd
      have e0 : a'.tmps.getD 9 undef = Value.int .i64 (cmpN x.day y.day) := hdeps 4 (by decide) 9 rfl
      have e0' : a'.tmps[9]?.getD undef = Value.int .i64 (cmpN x.day y.day) := by rw [← Array.getD_eq_getD_getElem?]; exact e0
      have e1 : a'.tmps.getD 14 undef = Value.int .i64 (cmpS x.authors y.authors) := hdeps 9 (by decide) 14 rfl
      have e1' : a'.tmps[14]?.getD undef = Value.int .i64 (cmpS x.authors y.authors) := by rw [← Array.getD_eq_getD_getElem?]; exact e1
      clear hoth hdeps hdf hts ho
      refine wp_via (fun K' hK => ?_)
      have HK := Lib.hid hK
      clear hK
      go_simp
      exact HK.out _ _ ⟨_, rfl, hg.then_alloc _, (AllD.refl _).then_alloc _, ⟨wx.heap.size, rfl, heap_at _ _ _ rfl⟩⟩
    · obtain rfl := Option.some.inj ho
      obtain rfl := Option.some.inj hd
      obtain ⟨b9, e0, hb9⟩ : QRowN #[Value.int .i64 (cmpN x.day y.day), Value.int .i64 (cmpS x.authors y.authors)] 3 2 (a'.tmps.getD 15 undef) wx := hdeps 10 (by decide) 15 rfl
      have hsl : Sl RInt 1 (fun _ => True) wx (some ⟨b9, 0, none⟩) 2 [cmpN x.day y.day, cmpS x.authors y.authors] := Sl.lit_ints _ hb9 rfl trivial
      have HO := Lib.hid (orI_any _ 2 2 _ wx hsl (by decide))
      rw [HW.out] at HO
      clear hb9 hsl
      clear hoth hdeps hdf hts ho
      refine wp_via (fun K' hK => ?_)
      have HK := Lib.hid hK
      clear hK
      go_simp
      refine HO.out.mono ?_
      rintro e w4 ⟨rfl, hw4⟩
      subst hw4
      exact HK.out _ _ ⟨_, rfl, hg, AllD.refl _, rfl⟩
  · intro wx f hg hd
    have e9 : f 16 = .int .i64 (cfW x y) := hd 11 16 (by decide) rfl
    rw [show dsts _ 12 = [5, 6, 7, 8, 9, 10, 11, 12, 13, 14, 15, 16] from by kernel_rfl]
    simp only [List.map_cons, List.map_nil, puts, Act.put, e9, List.drop_succ_cons, List.drop_zero]
    generalize f 5 = f5
    generalize f 6 = f6
    generalize f 7 = f7
    generalize f 8 = f8
    generalize f 9 = f9
    generalize f 10 = f10
    generalize f 11 = f11
    generalize f 12 = f12
    generalize f 13 = f13
    generalize f 14 = f14
    generalize f 15 = f15
    simp only [List.setIfInBounds_toArray, List.set_cons_zero, List.set_cons_succ]
    have hkx := hk1.trans hg
    clear hd e9 f hg hk1
    go_wp2_with fail
    go_ret
    exact ⟨rfl, hkx⟩
end Go.Proofs.YtgobnlgmbplggaaGreatDoor
