/- worksFault of the program. -/
import Derived.Test.YtgobnlgmbplggaaGreatDoorR2
namespace Go.Proofs.YtgobnlgmbplggaaGreatDoor
open Go.RowKit

theorem isDayK_any (d : Int) (w : World) (_hd : -2000000000000 ≤ d ∧ d ≤ 2000000000000) : Calls Tryz.prog 71 #[.int .i64 d] w fun e w' => e = .returned (.bool (decide (0 ≤ d ∧ d ≤ 4000))) ∧ w' = w := by
  by_cases h1 : 0 ≤ d
  · have d1 : decide ((0 : Int) ≤ d) = true := by simpa using h1
    by_cases h2 : d ≤ 4000
    · have d2 : decide (d ≤ (4000 : Int)) = true := by simpa using h2
      have HR := Lib.hid (show decide (0 ≤ d ∧ d ≤ 4000) = true by simp [h1, h2])
      clear h1 h2
      rw [HR.out]
      go_enter Tryz.func71, Tryz.ntmps71
      go_wp2_with fail
      go_ret
      exact ⟨rfl, rfl⟩
    · have d2 : decide (d ≤ (4000 : Int)) = false := by simpa using h2
      have HR := Lib.hid (show decide (0 ≤ d ∧ d ≤ 4000) = false by simp [h2])
      clear h1 h2
      rw [HR.out]
      go_enter Tryz.func71, Tryz.ntmps71
      go_wp2_with fail
      go_ret
      exact ⟨rfl, rfl⟩
  · have d1 : decide ((0 : Int) ≤ d) = false := by simpa using h1
    have HR := Lib.hid (show decide (0 ≤ d ∧ d ≤ 4000) = false by simp [h1])
    clear h1
    rw [HR.out]
    go_enter Tryz.func71, Tryz.ntmps71
    go_wp2_with fail
    go_ret
    exact ⟨rfl, rfl⟩
section
variable {ps : List Per} {l : List Wrk} {k : Nat} {x : Wrk} {p : Option Wrk} {s : ByteArray} {q : Option ByteArray}
theorem wrkE_day (h : decide (0 ≤ x.day ∧ x.day ≤ 4000) = false) : wrkE ps p x = 1 := by rw [wrkE, if_pos (by simpa using h)]
theorem wrkE_few (h : decide (0 ≤ x.day ∧ x.day ≤ 4000) = true) (h2 : x.authors.length < 2) : wrkE ps p x = 3 := by rw [wrkE, if_neg (by simpa using h), if_pos h2]
theorem wrkE_many (h : decide (0 ≤ x.day ∧ x.day ≤ 4000) = true) (h3 : 20 < x.authors.length) : wrkE ps p x = 2 := by rw [wrkE, if_neg (by simpa using h), if_neg (by omega), if_pos h3]
theorem wrkE_aut {z : Int} (h : decide (0 ≤ x.day ∧ x.day ≤ 4000) = true) (h2 : ¬ x.authors.length < 2) (h3 : ¬ 20 < x.authors.length) (h4 : scanF (autE ps) none x.authors = z) (hz : z ≠ 0) : wrkE ps p x = z := by
  rw [wrkE, if_neg (by simpa using h), if_neg h2, if_neg h3, h4, if_pos hz]
theorem wrkE_order (h : decide (0 ≤ x.day ∧ x.day ≤ 4000) = true) (h2 : ¬ x.authors.length < 2) (h3 : ¬ 20 < x.authors.length) (h4 : scanF (autE ps) none x.authors = 0) (h5 : notOver cfW p x = true) : wrkE ps p x = 7 := by
  rw [wrkE, if_neg (by simpa using h), if_neg h2, if_neg h3, h4, if_neg (by decide), if_pos h5]
theorem wrkE_ok (h : decide (0 ≤ x.day ∧ x.day ≤ 4000) = true) (h2 : ¬ x.authors.length < 2) (h3 : ¬ 20 < x.authors.length) (h4 : scanF (autE ps) none x.authors = 0) (h5 : notOver cfW p x = false) : wrkE ps p x = 0 := by
  rw [wrkE, if_neg (by simpa using h), if_neg h2, if_neg h3, h4, if_neg (by decide), if_neg (by rw [h5]; decide)]
theorem autE_none (h : hasK ps s = false) : autE ps q s = 8 := by rw [autE, if_pos h]
theorem autE_order (h : hasK ps s = true) (h2 : notUp q s = true) : autE ps q s = 7 := by rw [autE, if_neg (by rw [h]; decide), if_pos h2]
theorem autE_ok (h : hasK ps s = true) (h2 : notUp q s = false) : autE ps q s = 0 := by rw [autE, if_neg (by rw [h]; decide), if_neg (by rw [h2]; decide)]
theorem worksF_large (h : 1000 < l.length) : worksF ps l = 2 := by rw [worksF, if_pos h]
theorem worksF_scan (h : ¬ 1000 < l.length) : worksF ps l = scanF (wrkE ps) none l := by rw [worksF, if_neg h]
end
end Go.Proofs.YtgobnlgmbplggaaGreatDoor

/- worksFault of the program. -/
namespace Go.Proofs.YtgobnlgmbplggaaGreatDoor
open Go.RowKit

set_option maxRecDepth 100000 in
set_option maxHeartbeats 12800000 in
theorem worksFault_any (a : Option Addr) (len cap : Nat) (l : List Wrk) (ps : List Per) (mb n : Nat) (w : World) (hs : Sl RWrk 2 (fun _ => True) w a len l) (hl : len ≤ 100000) (hm : MapS Tryz.prog 9 w mb n (keyV ps)) :
    Calls Tryz.prog 66 #[.slice a len cap, .map (some mb)] w fun e w' => e = .returned (.int .i64 (worksF ps l)) ∧ All w w' := by
  have HLEN := Lib.hid hs.len
  by_cases hbig : 1000 < len
  · have hd0 : decide ((1000 : Int) < (len : Int)) = true := by simp; omega
    have HF := Lib.hid (worksF_large (ps := ps) (l := l) (by have := HLEN.out; omega))
    clear hs hm
    go_enter Tryz.func66, Tryz.ntmps66
    go_wp2_with fail
    go_ret
    exact ⟨ret_int' HF.out.symm, Kept.refl _ _⟩
  have hd0 : decide ((1000 : Int) < (len : Int)) = false := by simp; omega
  have HSC := Lib.hid (worksF_scan (ps := ps) (l := l) (by have := HLEN.out; omega))
  have HS := Lib.hid (fun (wx : World) (k : All w wx) => hs.keep RWrk.ok k)
  have HM := Lib.hid (fun (wx : World) (k : All w wx) => hm.keep k trivial)
  clear hs hm
  go_enter Tryz.func66, Tryz.ntmps66
  go_wp2_with fail
  go_loopw [16] (fun i wr => ∃ k : Nat, k ≤ len ∧ i = .int .i64 k ∧ ScanAt (wrkE ps) l k ∧ All w wr) (fun i _ => len - (intOf i).toNat)
  case atStart => exact ⟨0, Nat.zero_le _, rfl, ScanAt.zero _ _, Kept.refl _ _⟩
  case round =>
    obtain ⟨k, hk, rfl, hat, hall⟩ := hrel
    obtain ⟨wo, rfl⟩ : ∃ wo : World, wo = wr := ⟨_, rfl⟩
    by_cases hlt : k < len
    · obtain ⟨b, off, x, xa, xc, ha, -, c0, c1, hxi, hx, -⟩ := (HS.out _ hall).atWrk hlt
      subst ha
      have HX := Lib.hid hx
      have HSM := Lib.hid hxi.small
      have hxl := hxi.small.2
      clear hx
      have hb9 := heap_at wo (.cells #[.int .i64 x.day, .slice xa x.authors.length xc] 105) _ rfl
      obtain ⟨xb, hxb⟩ : ∃ z, z = wo.heap.size := ⟨_, rfl⟩
      have HXB := Lib.hid hxb
      rw [← hxb] at hb9
      have hall' : All w (wo.alloc (.cells #[.int .i64 x.day, .slice xa x.authors.length xc] 105)) := hall.then_alloc _
      have HXI := Lib.hid (hxi.keep (Kept.alloc (fun _ => True) wo (.cells #[.int .i64 x.day, .slice xa x.authors.length xc] 105)))
      have HAT := Lib.hid hat
      clear hxb hall hxi hat
      go_upto_region 6 with fail
      simp only [← HXB.out]
      generalize wo.alloc (.cells #[.int .i64 x.day, .slice xa x.authors.length xc] 105) = w9 at *
      have hall := hall'
      have e0 := cell_at (i := 0) hb9 rfl
      have e1 := cell_at (i := 1) hb9 rfl
      have HB9 := Lib.hid hb9
      clear hb9 c0 c1 hall'
      cases hday : decide (0 ≤ x.day ∧ x.day ≤ 4000) with
      | false =>
        have HF := Lib.hid (show worksF ps l = 1 from by rw [HSC.out]; exact HAT.out.bad HX.out (wrkE_day hday) (by decide))
        go_wp2_with fail
        refine (isDayK_any x.day _ HSM.out.1).mono ?_
        rintro e w' ⟨rfl, hwd⟩
        have hwd := hwd.symm
        subst hwd
        rw [hday]
        go_wp2_with fail
        go_ret
        exact ⟨ret_int' HF.out.symm, (by repeat (first | exact hall | refine Kept.then_drew ?_ | refine Kept.then_drewN ?_ _ | refine Kept.then_alloc ?_ _))⟩
      | true =>
      have HDAY := Lib.hid hday
      by_cases h2 : x.authors.length < 2
      · have d2 : decide ((x.authors.length : Int) < 2) = true := by simp; omega
        have HF := Lib.hid (show worksF ps l = 3 from by rw [HSC.out]; exact HAT.out.bad HX.out (wrkE_few hday h2) (by decide))
        go_wp2_with fail
        refine (isDayK_any x.day _ HSM.out.1).mono ?_
        rintro e w' ⟨rfl, hwd⟩
        have hwd := hwd.symm
        subst hwd
        rw [hday]
        clear hday
        go_wp2_with fail
        go_ret
        exact ⟨ret_int' HF.out.symm, (by repeat (first | exact hall | refine Kept.then_drew ?_ | refine Kept.then_drewN ?_ _ | refine Kept.then_alloc ?_ _))⟩
      by_cases h3 : 20 < x.authors.length
      · have d2 : decide ((x.authors.length : Int) < 2) = false := by simp; omega
        have d3 : decide ((20 : Int) < (x.authors.length : Int)) = true := by simp; omega
        have HF := Lib.hid (show worksF ps l = 2 from by rw [HSC.out]; exact HAT.out.bad HX.out (wrkE_many hday h3) (by decide))
        go_wp2_with fail
        refine (isDayK_any x.day _ HSM.out.1).mono ?_
        rintro e w' ⟨rfl, hwd⟩
        have hwd := hwd.symm
        subst hwd
        rw [hday]
        clear hday
        go_wp2_with fail
        go_ret
        exact ⟨ret_int' HF.out.symm, (by repeat (first | exact hall | refine Kept.then_drew ?_ | refine Kept.then_drewN ?_ _ | refine Kept.then_alloc ?_ _))⟩
      have d2 : decide ((x.authors.length : Int) < 2) = false := by simp; omega
      have d3 : decide ((20 : Int) < (x.authors.length : Int)) = false := by simp; omega
      have HB := Lib.hid (And.intro h2 h3)
      go_wp2_with fail
      refine (isDayK_any x.day _ HSM.out.1).mono ?_
      rintro e w' ⟨rfl, hwd⟩
      have hwd := hwd.symm
      subst hwd
      rw [hday]
      clear hday
      go_wp2_with fail
      go_loopw [39] (fun i wr => ∃ j : Nat, j ≤ x.authors.length ∧ i = .int .i64 j ∧ ScanAt (autE ps) x.authors j ∧ All w9 wr) (fun i _ => x.authors.length - (intOf i).toNat)
      case atStart => exact ⟨0, Nat.zero_le _, rfl, ScanAt.zero _ _, by first | exact Kept.refl _ _ | (refine Kept.then_drew ?_; exact Kept.refl _ _)⟩
      case round =>
        clear e0 e1
        obtain ⟨j, hj, rfl, hja, hk9⟩ := hrel
        have HALL := Lib.hid (hall.trans hk9)
        clear hall
        obtain ⟨wi, rfl⟩ : ∃ wi : World, wi = wr := ⟨_, rfl⟩
        have e0 := cell_at (i := 0) (hk9.heap HB9.out trivial) rfl
        have e1 := cell_at (i := 1) (hk9.heap HB9.out trivial) rfl
        by_cases hjl : j < x.authors.length
        · obtain ⟨b', off', s, ha', -, c0, hsz, hsx, -, -⟩ := (HXI.out.keep hk9).rauthors.atStr hjl
          subst ha'
          have HSX := Lib.hid hsx
          have hlk := (HM.out _ HALL.out).look_ok Tryz.underlying9 Tryz.underlying106 (Tryz.zeroValue3 _) s hsz
          rw [keyV_some] at hlk
          clear hsx
          cases hkk : hasK ps s with
          | false =>
            have HF := Lib.hid (show worksF ps l = 8 from by rw [HSC.out]; exact HAT.out.bad HX.out (wrkE_aut HDAY.out HB.out.1 HB.out.2 (hja.bad HSX.out (autE_none hkk) (by decide)) (by decide)) (by decide))
            rw [hkk] at hlk
            have hall := HALL.out
            clear hja hkk
            go_wp2_with fail
            go_ret
            exact ⟨ret_int' HF.out.symm, (by repeat (first | exact hall | refine Kept.then_drew ?_ | refine Kept.then_drewN ?_ _ | refine Kept.then_alloc ?_ _))⟩
          | true =>
          rw [hkk] at hlk
          have HKK := Lib.hid hkk
          clear hkk
          rcases j with _ | j
          · have HN := Lib.hid (hja.next HSX.out (autE_ok HKK.out rfl))
            rw [Nat.add_zero] at c0
            clear hja
            go_wp2_with fail
            go_roundw
            case rel => exact ⟨1, by omega, rfl, HN.out, (by repeat (first | exact hk9 | refine Kept.then_drew ?_ | refine Kept.then_drewN ?_ _))⟩
            case measure => simp [intOf]; omega
          · have f1 : (0 : Int) ≤ (j : Int) := by omega
            have f2 : (j : Int) < (x.authors.length : Int) := by omega
            have f3 : j < x.authors.length := by omega
            have f4 : IntKind.i64.wrap (j : Int) = (j : Int) := IntWalk.i64_in _ (by omega)
            obtain ⟨b3, off3, y, ha3, -, d0, -, hy, -, -⟩ := (HXI.out.keep hk9).rauthors.atStr f3
            cases ha3
            have hpv := Lib.hid (show prevAt x.authors (j + 1) = some y from prevAt_succ hy)
            clear hy
            cases hle : leB s y with
            | true =>
              have hle' : (Op.bytesLess s.toList y.toList || s.toList == y.toList) = true := hle
              have he : autE ps (prevAt x.authors (j + 1)) s = 7 := by rw [hpv.out]; exact autE_order HKK.out hle
              have HF := Lib.hid (show worksF ps l = 7 from by rw [HSC.out]; exact HAT.out.bad HX.out (wrkE_aut HDAY.out HB.out.1 HB.out.2 (hja.bad HSX.out he (by decide)) (by decide)) (by decide))
              have hall := HALL.out
              clear hja hle he
              go_wp2_with fail
              go_ret
              exact ⟨ret_int' HF.out.symm, (by repeat (first | exact hall | refine Kept.then_drew ?_ | refine Kept.then_drewN ?_ _ | refine Kept.then_alloc ?_ _))⟩
            | false =>
              have hle' : (Op.bytesLess s.toList y.toList || s.toList == y.toList) = false := hle
              have he : autE ps (prevAt x.authors (j + 1)) s = 0 := by rw [hpv.out]; exact autE_ok HKK.out hle
              have HN := Lib.hid (hja.next HSX.out he)
              clear hja hle he
              go_wp2_with fail
              go_roundw
              case rel => exact ⟨j + 1 + 1, by omega, by go_num, HN.out, (by repeat (first | exact hk9 | refine Kept.then_drew ?_ | refine Kept.then_drewN ?_ _))⟩
              case measure => simp [intOf]; omega
        · have hd : decide ((j : Int) < (x.authors.length : Int)) = false := by simp; omega
          have HSA := Lib.hid (hja.ok (by omega))
          have hall := HALL.out
          clear hja
          rcases k with _ | k
          · have HN := Lib.hid (HAT.out.next HX.out (wrkE_ok HDAY.out HB.out.1 HB.out.2 HSA.out rfl))
            go_upto_region 21 with fail
            go_quiet (fail)
            go_wp2_with fail
            go_roundw
            case rel => exact ⟨1, by omega, rfl, HN.out, (by repeat (first | exact hall | refine Kept.then_drew ?_ | refine Kept.then_drewN ?_ _ | refine Kept.then_alloc ?_ _))⟩
            case measure => simp [intOf]; omega
          · have f1 : (0 : Int) ≤ (k : Int) := by omega
            have f2 : (k : Int) < (len : Int) := by omega
            have f3 : k < len := by omega
            have f4 : IntKind.i64.wrap (k : Int) = (k : Int) := IntWalk.i64_in _ (by omega)
            obtain ⟨b', off', y, ya, yc, ha', -, d0, d4, hyi, hy, -⟩ := (HS.out _ hall).atWrk (k := k) f3
            cases ha'
            have f5 := lt_of_cell d0
            have hpv := Lib.hid (show prevAt l (k + 1) = some y from prevAt_succ hy)
            have HCMP := Lib.hid (fun (wx : World) (kx : All wi wx) => compareWorks_any y x ya yc xa xc wx (hyi.keep kx) ((HXI.out.keep hk9).keep kx) (by have := hyi.small.2; omega) (by omega))
            clear hy hyi
            obtain ⟨z, hz⟩ : ∃ z, z = cfW y x := ⟨_, rfl⟩
            rw [← hz] at HCMP
            have ki : All wi wi := Kept.refl _ _
            clear hall
            by_cases hup : 0 ≤ z
            · have g0 : decide ((0 : Int) ≤ z) = true := by simpa using hup
              have he : wrkE ps (prevAt l (k + 1)) x = 7 := by rw [hpv.out]; exact wrkE_order HDAY.out HB.out.1 HB.out.2 HSA.out (by show decide (0 ≤ cfW y x) = true; rw [← hz]; exact g0)
              have HF := Lib.hid (show worksF ps l = 7 from by rw [HSC.out]; exact HAT.out.bad HX.out he (by decide))
              clear hup he hz
              go_upto_region 21 with fail
              go_region_held3 (fun w' => All wi w' ∧ w'.cell? ⟨b, off + k * 2, none⟩ = some (.int .i64 y.day) ∧ w'.cell? ⟨b, off + k * 2 + 1, none⟩ = some (.slice ya y.authors.length yc) ∧ w'.cell? ⟨xb, 0, none⟩ = some (.int .i64 x.day) ∧ w'.cell? ⟨xb, 1, none⟩ = some (.slice xa x.authors.length xc)) (first | exact ⟨ki, d0, d4, e0, e1⟩ | exact ⟨ki, m0, m1, m2, m3⟩ | (refine ⟨(by repeat (first | exact ki | refine Kept.then_drew ?_ | refine Kept.then_drewN ?_ _)), ?_⟩; first | exact ⟨d0, d4, e0, e1⟩ | exact ⟨m0, m1, m2, m3⟩ | go_keep) | go_keep) (first | (go_at_call 140; refine (HCMP.out _ (by repeat (first | exact ki | refine Kept.then_drew ?_ | refine Kept.then_drewN ?_ _))).mono ?_; rintro e wa ⟨rfl, hwa⟩; have m0 := hwa.1.cell d0 trivial; have m1 := hwa.1.cell d4 trivial; have m2 := hwa.1.cell e0 trivial; have m3 := hwa.1.cell e1 trivial; have ki := Kept.trans (show All wi _ from (by repeat (first | exact ki | refine Kept.then_drew ?_ | refine Kept.then_drewN ?_ _))) hwa.1))
              go_wp2_with fail
              go_ret
              exact ⟨ret_int' HF.out.symm, HALL.out.trans (by repeat (first | exact ki | refine Kept.then_drew ?_ | refine Kept.then_drewN ?_ _))⟩
            · have g0 : decide ((0 : Int) ≤ z) = false := by simpa using hup
              have he : wrkE ps (prevAt l (k + 1)) x = 0 := by rw [hpv.out]; exact wrkE_ok HDAY.out HB.out.1 HB.out.2 HSA.out (by show decide (0 ≤ cfW y x) = false; rw [← hz]; exact g0)
              have HN := Lib.hid (HAT.out.next HX.out he)
              clear hup he hz
              go_upto_region 21 with fail
              go_region_held3 (fun w' => All wi w' ∧ w'.cell? ⟨b, off + k * 2, none⟩ = some (.int .i64 y.day) ∧ w'.cell? ⟨b, off + k * 2 + 1, none⟩ = some (.slice ya y.authors.length yc) ∧ w'.cell? ⟨xb, 0, none⟩ = some (.int .i64 x.day) ∧ w'.cell? ⟨xb, 1, none⟩ = some (.slice xa x.authors.length xc)) (first | exact ⟨ki, d0, d4, e0, e1⟩ | exact ⟨ki, m0, m1, m2, m3⟩ | (refine ⟨(by repeat (first | exact ki | refine Kept.then_drew ?_ | refine Kept.then_drewN ?_ _)), ?_⟩; first | exact ⟨d0, d4, e0, e1⟩ | exact ⟨m0, m1, m2, m3⟩ | go_keep) | go_keep) (first | (go_at_call 140; refine (HCMP.out _ (by repeat (first | exact ki | refine Kept.then_drew ?_ | refine Kept.then_drewN ?_ _))).mono ?_; rintro e wa ⟨rfl, hwa⟩; have m0 := hwa.1.cell d0 trivial; have m1 := hwa.1.cell d4 trivial; have m2 := hwa.1.cell e0 trivial; have m3 := hwa.1.cell e1 trivial; have ki := Kept.trans (show All wi _ from (by repeat (first | exact ki | refine Kept.then_drew ?_ | refine Kept.then_drewN ?_ _))) hwa.1))
              go_wp2_with fail
              go_roundw
              case rel => exact ⟨k + 1 + 1, by omega, by go_num, HN.out, HALL.out.trans (by repeat (first | exact ki | refine Kept.then_drew ?_ | refine Kept.then_drewN ?_ _))⟩
              case measure => simp [intOf]; omega
    · have hd : decide ((k : Int) < (len : Int)) = false := by simp; omega
      have HF := Lib.hid (show worksF ps l = 0 from by rw [HSC.out]; exact hat.ok (by have := HLEN.out; omega))
      clear hat
      go_wp2_with fail
      go_ret
      exact ⟨ret_int' HF.out.symm, hall⟩
end Go.Proofs.YtgobnlgmbplggaaGreatDoor

/- Check of worlds, of the program. -/
namespace Go.Proofs.YtgobnlgmbplggaaGreatDoor
open Go.RowKit

theorem worldF_places {s : Wld} {z : Int} (h : placesF s.places = z) (hz : z ≠ 0) : worldF s = z := by rw [worldF, h, if_pos hz]
theorem worldF_people {s : Wld} {z : Int} (h : placesF s.places = 0) (h2 : peopleF s.places s.people = z) (hz : z ≠ 0) : worldF s = z := by rw [worldF, h, if_neg (by decide), h2, if_pos hz]
theorem worldF_works {s : Wld} {z : Int} (h : placesF s.places = 0) (h2 : peopleF s.places s.people = 0) (h3 : worksF s.people s.works = z) (hz : z ≠ 0) : worldF s = z := by rw [worldF, h, if_neg (by decide), h2, if_neg (by decide), h3, if_pos hz]
theorem worldF_bonds {s : Wld} (h : placesF s.places = 0) (h2 : peopleF s.places s.people = 0) (h3 : worksF s.people s.works = 0) : worldF s = bondsF s.people s.bonds := by rw [worldF, h, if_neg (by decide), h2, if_neg (by decide), h3, if_neg (by decide)]
set_option maxRecDepth 100000 in
set_option maxHeartbeats 12800000 in
theorem checkWorld_any (a0 : Option Addr) (l0 c0 : Nat) (a1 : Option Addr) (l1 c1 : Nat) (a2 : Option Addr) (l2 c2 : Nat) (a3 : Option Addr) (l3 c3 : Nat) (s : Wld) (w : World) (hp : Sl RPlc 2 (fun _ => True) w a0 l0 s.places) (hl0 : l0 ≤ 100000) (hs : Sl RPer 5 (fun _ => True) w a1 l1 s.people) (hl1 : l1 ≤ 100000)
    (hw : Sl RWrk 2 (fun _ => True) w a2 l2 s.works) (hl2 : l2 ≤ 100000) (hb : Sl RBnd 2 (fun _ => True) w a3 l3 s.bonds) (hl3 : l3 ≤ 100000) (hg : Glob w) :
    Calls Tryz.prog 15 #[.agg #[.slice a0 l0 c0, .slice a1 l1 c1, .slice a2 l2 c2, .slice a3 l3 c3]] w fun e w' => e = .returned (.int .i64 (worldF s)) ∧ All w w' := by
  have hb0 := heap_at w (.cells #[.slice a0 l0 c0, .slice a1 l1 c1, .slice a2 l2 c2, .slice a3 l3 c3] 31) _ rfl
  obtain ⟨wb, hwb⟩ : ∃ z, z = w.heap.size := ⟨_, rfl⟩
  have HWB := Lib.hid hwb
  rw [← hwb] at hb0
  obtain ⟨w0, hw0⟩ : ∃ z, z = w.alloc (.cells #[.slice a0 l0 c0, .slice a1 l1 c1, .slice a2 l2 c2, .slice a3 l3 c3] 31) := ⟨_, rfl⟩
  have HW0 := Lib.hid hw0
  have hk0 : All w w0 := by rw [hw0]; exact Kept.alloc _ _ _
  rw [← hw0] at hb0
  have HC := Lib.hid (fun (wx : World) (k : All w0 wx) => k.heap hb0 trivial)
  have HP := Lib.hid (fun (wx : World) (k : All w0 wx) => placesFault_any a0 l0 c0 s.places wx (hp.keep RPlc.ok (hk0.trans k)) hl0)
  have HQ := Lib.hid (fun (wx : World) (k : All w0 wx) => peopleFault_any a0 l0 c0 a1 l1 c1 a2 l2 c2 a3 l3 c3 s.places s.people wx (hp.keep RPlc.ok (hk0.trans k)) hl0 (hs.keep RPer.ok (hk0.trans k)) hl1 (hg.keep (hk0.trans k)))
  have HK := Lib.hid (fun (wx : World) (k : All w0 wx) => keysOf_any a0 l0 c0 a1 l1 c1 a2 l2 c2 a3 l3 c3 s.people wx (hs.keep RPer.ok (hk0.trans k)) hl1)
  have HV := Lib.hid (fun (wx : World) (k : All w0 wx) => hw.keep RWrk.ok (hk0.trans k))
  have HB := Lib.hid (fun (wx : World) (k : All w0 wx) => hb.keep RBnd.ok (hk0.trans k))
  have HK0 := Lib.hid hk0
  have k0 : All w0 w0 := Kept.refl _ _
  have e0 := cell_at (i := 0) hb0 rfl
  have e1 := cell_at (i := 1) hb0 rfl
  have e2 := cell_at (i := 2) hb0 rfl
  have e3 := cell_at (i := 3) hb0 rfl
  obtain ⟨z1, hz1⟩ : ∃ z, z = placesF s.places := ⟨_, rfl⟩
  obtain ⟨z2, hz2⟩ : ∃ z, z = peopleF s.places s.people := ⟨_, rfl⟩
  obtain ⟨z3, hz3⟩ : ∃ z, z = worksF s.people s.works := ⟨_, rfl⟩
  have HZ1 := Lib.hid hz1
  have HZ2 := Lib.hid hz2
  have HZ3 := Lib.hid hz3
  rw [← hz1] at HP
  rw [← hz2] at HQ
  clear hp hs hw hb hg hwb hw0 hb0 hk0 hz1 hz2 hz3
  go_enter Tryz.func15, Tryz.ntmps15
  go_upto_region 1 with fail
  simp only [← HWB.out, ← HW0.out]
  go_wp2_with fail
  refine (HP.out _ k0).mono ?_
  rintro e w1 ⟨rfl, k1⟩
  have e0 := cell_at (i := 0) (HC.out _ k1) rfl
  have e1 := cell_at (i := 1) (HC.out _ k1) rfl
  have e2 := cell_at (i := 2) (HC.out _ k1) rfl
  have e3 := cell_at (i := 3) (HC.out _ k1) rfl
  by_cases h1 : z1 = 0
  · subst h1
    go_wp2_with fail
    refine (HQ.out _ k1).mono ?_
    rintro e w2 ⟨rfl, k2'⟩
    have k2 := k1.trans k2'
    clear k2' k1 e0 e1 e2 e3
    have e0 := cell_at (i := 0) (HC.out _ k2) rfl
    have e1 := cell_at (i := 1) (HC.out _ k2) rfl
    have e2 := cell_at (i := 2) (HC.out _ k2) rfl
    have e3 := cell_at (i := 3) (HC.out _ k2) rfl
    by_cases h2 : z2 = 0
    · subst h2
      go_wp2_with fail
      refine (HK.out _ k2).mono ?_
      rintro e w3 ⟨mb, rfl, -, hm, k3'⟩
      have k3 := k2.trans k3'
      clear k3' k2 e0 e1 e2 e3
      have e2 := cell_at (i := 2) (HC.out _ k3) rfl
      go_wp2_with fail
      have HM := Lib.hid (fun (wx : World) (k : All w3 wx) => hm.keep k trivial)
      have HWF := Lib.hid (worksFault_any a2 l2 c2 s.works s.people mb l1 w3 (HV.out _ k3) hl2 hm)
      rw [← HZ3.out] at HWF
      refine HWF.out.mono ?_
      rintro e w4 ⟨rfl, k4'⟩
      have k4 := k3.trans k4'
      have e3 := cell_at (i := 3) (HC.out _ k4) rfl
      have hm4 := HM.out _ k4'
      clear k4' k3 e2 hm
      by_cases h3 : z3 = 0
      · subst h3
        have HF := Lib.hid (worldF_bonds HZ1.out.symm HZ2.out.symm HZ3.out.symm)
        go_wp2_with fail
        refine (bondsFault_any a3 l3 c3 s.bonds s.people mb l1 w4 (HB.out _ k4) hl3 hm4).mono ?_
        rintro e w5 ⟨rfl, k5⟩
        go_wp2_with fail
        go_ret
        exact ⟨ret_int' HF.out.symm, HK0.out.trans (k4.trans k5)⟩
      · have hzn : (z3 != 0) = true := by simpa using h3
        have HF := Lib.hid (worldF_works HZ1.out.symm HZ2.out.symm HZ3.out.symm h3)
        clear h3
        go_wp2_with fail
        go_ret
        exact ⟨ret_int' HF.out.symm, HK0.out.trans k4⟩
    · have hzn : (z2 != 0) = true := by simpa using h2
      have HF := Lib.hid (worldF_people HZ1.out.symm HZ2.out.symm h2)
      clear h2
      go_wp2_with fail
      go_ret
      exact ⟨ret_int' HF.out.symm, HK0.out.trans k2⟩
  · have hzn : (z1 != 0) = true := by simpa using h1
    have HF := Lib.hid (worldF_places HZ1.out.symm h1)
    clear h1
    go_wp2_with fail
    go_ret
    exact ⟨ret_int' HF.out.symm, HK0.out.trans k1⟩
end Go.Proofs.YtgobnlgmbplggaaGreatDoor

/- The reference's sign, orders of bonds and homes. -/
namespace Go.Proofs.YtgobnlgmbplggaaGreatDoor
open Go.RowKit

theorem sign_any (d : Int) (w : World) : Calls Tryz.prog 173 #[.int .i64 d] w fun e w' => e = .returned (.int .i64 (cmpN d 0)) ∧ AllD w w' := by
  by_cases h1 : d < 0
  · have d1 : decide (d < (0 : Int)) = true := by simpa using h1
    rw [cmpN_lt h1]
    clear h1
    go_enter Tryz.func173, Tryz.ntmps173
    go_wp2_with fail
    go_ret
    exact ⟨rfl, by repeat (first | exact AllD.refl _ | refine AllD.then_drew ?_)⟩
  · have d1 : decide (d < (0 : Int)) = false := by simpa using h1
    by_cases h2 : 0 < d
    · have d2 : decide ((0 : Int) < d) = true := by simpa using h2
      rw [cmpN_gt h2]
      clear h1 h2
      go_enter Tryz.func173, Tryz.ntmps173
      go_wp2_with fail
      go_ret
      exact ⟨rfl, by repeat (first | exact AllD.refl _ | refine AllD.then_drew ?_)⟩
    · have d2 : decide ((0 : Int) < d) = false := by simpa using h2
      rw [cmpN_eq (show d = 0 by omega)]
      clear h1 h2
      go_enter Tryz.func173, Tryz.ntmps173
      go_wp2_with fail
      go_ret
      exact ⟨rfl, by repeat (first | exact AllD.refl _ | refine AllD.then_drew ?_)⟩
theorem cmpN_sub (a b : Int) : cmpN (a - b) 0 = cmpN a b := by
  unfold cmpN
  by_cases h : a < b
  · rw [if_pos h, if_pos (by omega)]
  · by_cases h2 : b < a
    · rw [if_neg h, if_pos h2, if_neg (by omega), if_pos (by omega)]
    · rw [if_neg h, if_neg h2, if_neg (by omega), if_neg (by omega)]
theorem cmpS_cfB (x y : Bnd) : cmpS [x.a, x.b] [y.a, y.b] = cfB x y := by
  rw [← orL_cfB]
  simp only [cmpS, orL, cmpB]
theorem bondOrder_any (x y : Bnd) (w : World) (h1 : BndSmall x) (h2 : BndSmall y) :
    Calls Tryz.prog 124 #[.agg #[.string x.a, .string x.b], .agg #[.string y.a, .string y.b]] w fun e w' => e = .returned (.int .i64 (cfB x y)) ∧ AllD w w' := by
  go_enter Tryz.func124, Tryz.ntmps124
  go_wp2_with fail
  refine (compareS_any _ 2 _ _ _ [x.a, x.b] [y.a, y.b] _ (Sl.lit_strs' [x.a, x.b] (heap_old _ (heap_at _ _ _ (by simp))) rfl trivial (by simp; exact h1)) (Sl.lit_strs' [y.a, y.b] (heap_at _ _ _ (by simp)) rfl trivial (by simp; exact h2)) (by omega)).mono ?_
  rintro e w' ⟨rfl, rfl⟩
  rw [cmpS_cfB]
  go_wp2_with fail
  go_ret
  exact ⟨rfl, by repeat (first | exact AllD.refl _ | refine AllD.then_alloc ?_ _ | refine AllD.then_drew ?_)⟩
end Go.Proofs.YtgobnlgmbplggaaGreatDoor

/- WorkOrder, HomeOrder of the reference. -/
namespace Go.Proofs.YtgobnlgmbplggaaGreatDoor
open Go.RowKit

theorem cfW_day {x y : Wrk} (h : x.day ≠ y.day) : cfW x y = cmpN (x.day - y.day) 0 := by
  rw [cmpN_sub, ← orL_cfW]
  have : cmpN x.day y.day ≠ 0 := by unfold cmpN; split; · decide
                                    split; · decide
                                    omega
  simp only [orL, if_pos this]
theorem cfW_same {x y : Wrk} (h : x.day = y.day) : cfW x y = cmpS x.authors y.authors := by
  rw [← orL_cfW]
  simp only [orL, cmpN_eq h]
  simp
  exact fun h => h.symm
set_option maxHeartbeats 1600000 in
theorem workOrder_any (x y : Wrk) (ax : Option Addr) (cx : Nat) (ay : Option Addr) (cy : Nat) (w : World) (hx : WrkIs (fun _ => True) w x ax cx) (hy : WrkIs (fun _ => True) w y ay cy) :
    Calls Tryz.prog 121 #[.agg #[.int .i64 x.day, .slice ax x.authors.length cx], .agg #[.int .i64 y.day, .slice ay y.authors.length cy]] w fun e w' => e = .returned (.int .i64 (cfW x y)) ∧ AllD w w' := by
  have hzx := hx.small
  have hzy := hy.small
  have h1 := hzx.1
  have h2 := hzy.1
  have h3 := hzx.2
  have h4 := hzy.2
  have f1 : IntKind.i64.wrap (x.day - y.day) = x.day - y.day := IntWalk.i64_in _ (by omega)
  have HX := Lib.hid hx
  have HY := Lib.hid hy
  clear hx hy hzx hzy
  by_cases hd : x.day = y.day
  · have hne : (x.day != y.day) = false := by simp [hd]
    have HW := Lib.hid (cfW_same hd)
    have HS := Lib.hid (compareSS_any ax x.authors.length cx ay y.authors.length cy x.authors y.authors ((w.alloc (.cells #[.int .i64 x.day, .slice ax x.authors.length cx] 105)).alloc (.cells #[.int .i64 y.day, .slice ay y.authors.length cy] 105)) (HX.out.keep ((Kept.refl _ _).then_alloc _ |>.then_alloc _)).rauthors (HY.out.keep ((Kept.refl _ _).then_alloc _ |>.then_alloc _)).rauthors (by omega) (by omega))
    rw [HW.out]
    clear hd
    go_enter Tryz.func121, Tryz.ntmps121
    go_wp2_with fail
    refine HS.out.mono ?_
    rintro e w' ⟨rfl, rfl⟩
    go_wp2_with fail
    go_ret
    exact ⟨rfl, (by repeat (first | exact hwd | exact AllD.refl _ | refine AllD.then_alloc ?_ _ | refine AllD.then_drew ?_))⟩
  · have hne : (x.day != y.day) = true := by simp [hd]
    have HW := Lib.hid (cfW_day hd)
    rw [HW.out]
    clear hd
    go_enter Tryz.func121, Tryz.ntmps121
    go_wp2_with fail
    refine (sign_any _ _).mono ?_
    rintro e w' ⟨rfl, hwd'⟩
    have hwd := AllD.trans (show AllD w _ from ((AllD.refl w).then_alloc _).then_alloc _) hwd'
    go_wp2_with fail
    go_ret
    exact ⟨rfl, (by repeat (first | exact hwd | exact AllD.refl _ | refine AllD.then_alloc ?_ _ | refine AllD.then_drew ?_))⟩
end Go.Proofs.YtgobnlgmbplggaaGreatDoor

/- HomeOrder of the reference. -/
namespace Go.Proofs.YtgobnlgmbplggaaGreatDoor
open Go.RowKit

theorem cmpN_ne {a b : Int} (h : a ≠ b) : cmpN a b ≠ 0 := by
  unfold cmpN
  split
  · decide
  split
  · decide
  · omega
theorem cfH_frm {x y : Hom} (h : x.frm ≠ y.frm) : cfH x y = cmpN (x.frm - y.frm) 0 := by
  rw [cmpN_sub, ← orL_cfH]
  simp only [orL, if_pos (cmpN_ne h)]
theorem cfH_place {x y : Hom} (h : x.frm = y.frm) (h2 : cmpB x.place y.place ≠ 0) : cfH x y = cmpB x.place y.place := by
  rw [← orL_cfH]
  simp only [orL, cmpN_eq h, if_pos h2]
  simp
theorem cfH_til {x y : Hom} (h : x.frm = y.frm) (h2 : cmpB x.place y.place = 0) : cfH x y = cmpN (x.til - y.til) 0 := by
  rw [cmpN_sub, ← orL_cfH]
  simp only [orL, cmpN_eq h, h2]
  simp
  exact fun h => h.symm
theorem cmpB_ne {a b : ByteArray} (h : a ≠ b) : cmpB a b ≠ 0 := fun e => h (by
  have := (cmp_zero _ _).1 e
  exact ByteArray.ext (Array.toList_inj.1 this))
theorem cmpB_same (a : ByteArray) : cmpB a a = 0 := (cmp_zero _ _).2 rfl
set_option maxHeartbeats 1600000 in
theorem homeOrder_any (x y : Hom) (w : World) (hx : HomSmall x) (hy : HomSmall y) :
    Calls Tryz.prog 142 #[.agg #[.string x.place, .int .i64 x.frm, .int .i64 x.til], .agg #[.string y.place, .int .i64 y.frm, .int .i64 y.til]] w fun e w' => e = .returned (.int .i64 (cfH x y)) ∧ AllD w w' := by
  obtain ⟨-, h1, h2⟩ := hx
  obtain ⟨-, h3, h4⟩ := hy
  have f1 : IntKind.i64.wrap (x.frm - y.frm) = x.frm - y.frm := IntWalk.i64_in _ (by omega)
  have f2 : IntKind.i64.wrap (x.til - y.til) = x.til - y.til := IntWalk.i64_in _ (by omega)
  clear h1 h2 h3 h4
  by_cases hd : x.frm = y.frm
  · have hne : (x.frm != y.frm) = false := by simp [hd]
    by_cases hp : x.place = y.place
    · have hpe : (x.place.toList != y.place.toList) = false := by simp [hp]
      have hpe2 : (x.place.toList == y.place.toList) = true := by simp [hp]
      have HW := Lib.hid (cfH_til hd (by rw [hp]; exact cmpB_same _))
      rw [HW.out]
      clear hd hp
      go_enter Tryz.func142, Tryz.ntmps142
      go_wp2_with fail
      refine (sign_any _ _).mono ?_
      rintro e w' ⟨rfl, hwd'⟩
      have hwd := AllD.trans (show AllD w _ from ((AllD.refl w).then_alloc _).then_alloc _) hwd'
      go_wp2_with fail
      go_ret
      exact ⟨rfl, (by repeat (first | exact hwd | exact AllD.refl _ | refine AllD.then_alloc ?_ _ | refine AllD.then_drew ?_))⟩
    · have hpe : (x.place.toList != y.place.toList) = true := by simp only [bne_iff_ne, ne_eq]; exact fun e => hp (bytes_ext e)
      have hpe2 : (x.place.toList == y.place.toList) = false := by simpa using hpe
      have HW := Lib.hid (cfH_place hd (cmpB_ne hp))
      rw [HW.out]
      clear hd hp
      go_enter Tryz.func142, Tryz.ntmps142
      go_wp2_with fail
      refine (strCmp_any _ _ _).mono ?_
      rintro e w' ⟨rfl, hwd'⟩
      have hwd := AllD.trans (show AllD w _ from ((AllD.refl w).then_alloc _).then_alloc _) hwd'
      go_wp2_with fail
      go_ret
      exact ⟨rfl, (by repeat (first | exact hwd | exact AllD.refl _ | refine AllD.then_alloc ?_ _ | refine AllD.then_drew ?_))⟩
  · have hne : (x.frm != y.frm) = true := by simp [hd]
    have HW := Lib.hid (cfH_frm hd)
    rw [HW.out]
    clear hd
    go_enter Tryz.func142, Tryz.ntmps142
    go_wp2_with fail
    refine (sign_any _ _).mono ?_
    rintro e w' ⟨rfl, hwd'⟩
    have hwd := AllD.trans (show AllD w _ from ((AllD.refl w).then_alloc _).then_alloc _) hwd'
    go_wp2_with fail
    go_ret
    exact ⟨rfl, (by repeat (first | exact hwd | exact AllD.refl _ | refine AllD.then_alloc ?_ _ | refine AllD.then_drew ?_))⟩
end Go.Proofs.YtgobnlgmbplggaaGreatDoor

/- rising of the reference, at any function value. -/
namespace Go.Proofs.YtgobnlgmbplggaaGreatDoor
open Go.RowKit

def risE (p : ByteArray → Bool) (z : Int) (q : Option ByteArray) (x : ByteArray) : Int := if p x = false then z else if notUp q x = true then 7 else 0
theorem risE_mail : risE mailB 3 = maiE := rfl
theorem risE_aut (l : List Per) : risE (hasK l) 8 = autE l := rfl
section
variable {p : ByteArray → Bool} {z : Int} {q : Option ByteArray} {x : ByteArray}
theorem risE_no (h : p x = false) : risE p z q x = z := by rw [risE, if_pos h]
theorem risE_order (h : p x = true) (h2 : notUp q x = true) : risE p z q x = 7 := by rw [risE, if_neg (by rw [h]; decide), if_pos h2]
theorem risE_ok (h : p x = true) (h2 : notUp q x = false) : risE p z q x = 0 := by rw [risE, if_neg (by rw [h]; decide), if_neg (by rw [h2]; decide)]
end
set_option maxRecDepth 100000 in
set_option maxHeartbeats 12800000 in
theorem rising_any (g : FuncId) (caps : Array Value) (eg : ∀ args w, (callFunc g args).run Tryz.prog w = .ok (.enter g args) w) (p : ByteArray → Bool) (z : Int) (hz : z ≠ 0) (G : Nat → Prop)
    (a : Option Addr) (len cap : Nat) (l : List ByteArray) (w : World) (hs : Sl RStr 1 (fun _ => True) w a len l) (hl : len ≤ 100000) (hp : AnswersG Tryz.prog g caps G w (fun y : ByteArray => Value.string y) p l) :
    Calls Tryz.prog 143 #[.slice a len cap, .func (.func g) #[] caps, .int .i64 z] w fun e w' => e = .returned (.int .i64 (scanF (risE p z) none l)) ∧ All w w' := by
  have HLEN := Lib.hid hs.len
  have HS := Lib.hid hs
  have HP := Lib.hid hp
  clear hs hp
  go_enter Tryz.func143, Tryz.ntmps143
  go_wp2_with fail
  go_loopw [11] (fun i wr => ∃ k : Nat, k ≤ len ∧ i = .int .i64 k ∧ ScanAt (risE p z) l k ∧ All w wr) (fun i _ => len - (intOf i).toNat)
  case atStart => exact ⟨0, Nat.zero_le _, rfl, ScanAt.zero _ _, Kept.refl _ _⟩
  case round =>
    obtain ⟨k, hk, rfl, hat, hall⟩ := hrel
    obtain ⟨wo, rfl⟩ : ∃ wo : World, wo = wr := ⟨_, rfl⟩
    by_cases hlt : k < len
    · obtain ⟨b, off, x, ha, -, c0, hxz, hx, -, -⟩ := (HS.out.keep RStr.ok hall).atStr hlt
      subst ha
      have HX := Lib.hid hx
      have hmem := List.mem_of_getElem? hx
      clear hx
      cases hpx : p x with
      | false =>
        have HF := Lib.hid (show scanF (risE p z) none l = z from hat.bad HX.out (risE_no hpx) hz)
        clear hat
        go_wp2_with fail
        refine (HP.out x hmem _ (Kept.all (by repeat (first | exact hall | refine Kept.then_drew ?_ | refine Kept.then_drewN ?_ _ | refine Kept.then_alloc ?_ _)))).mono ?_
        rintro e w' ⟨rfl, hw⟩
        have hall := Kept.trans (show All w _ from (by repeat (first | exact hall | refine Kept.then_drew ?_ | refine Kept.then_drewN ?_ _ | refine Kept.then_alloc ?_ _))) hw
        rw [hpx]
        go_wp2_with fail
        go_ret
        exact ⟨ret_int' HF.out.symm, (by repeat (first | exact hall | refine Kept.then_drew ?_ | refine Kept.then_drewN ?_ _ | refine Kept.then_alloc ?_ _))⟩
      | true =>
      rcases k with _ | k
      · have HN := Lib.hid (hat.next HX.out (risE_ok hpx rfl))
        rw [Nat.add_zero] at c0
        clear hat
        go_wp2_with fail
        refine (HP.out x hmem _ (Kept.all (by repeat (first | exact hall | refine Kept.then_drew ?_ | refine Kept.then_drewN ?_ _ | refine Kept.then_alloc ?_ _)))).mono ?_
        rintro e w' ⟨rfl, hw⟩
        have hall := Kept.trans (show All w _ from (by repeat (first | exact hall | refine Kept.then_drew ?_ | refine Kept.then_drewN ?_ _ | refine Kept.then_alloc ?_ _))) hw
        rw [hpx]
        go_wp2_with fail
        go_roundw
        case rel => exact ⟨1, by omega, rfl, HN.out, (by repeat (first | exact hall | refine Kept.then_drew ?_ | refine Kept.then_drewN ?_ _ | refine Kept.then_alloc ?_ _))⟩
        case measure => simp [intOf]; omega
      · have f1 : (0 : Int) ≤ (k : Int) := by omega
        have f2 : (k : Int) < (len : Int) := by omega
        have f3 : k < len := by omega
        have f4 : IntKind.i64.wrap (k : Int) = (k : Int) := IntWalk.i64_in _ (by omega)
        obtain ⟨b', off', y, ha', -, d0, -, hy, -, -⟩ := (HS.out.keep RStr.ok hall).atStr f3
        cases ha'
        have hpv := Lib.hid (show prevAt l (k + 1) = some y from prevAt_succ hy)
        clear hy
        cases hle : leB x y with
        | true =>
          have hle' : (Op.bytesLess x.toList y.toList || x.toList == y.toList) = true := hle
          have he : risE p z (prevAt l (k + 1)) x = 7 := by rw [hpv.out]; exact risE_order hpx hle
          have HF := Lib.hid (show scanF (risE p z) none l = 7 from hat.bad HX.out he (by decide))
          clear hat hle he
          go_wp2_with fail
          refine (HP.out x hmem _ (Kept.all (by repeat (first | exact hall | refine Kept.then_drew ?_ | refine Kept.then_drewN ?_ _ | refine Kept.then_alloc ?_ _)))).mono ?_
          rintro e w' ⟨rfl, hw⟩
          have d0 := hw.cell d0 trivial
          have hall := Kept.trans (show All w _ from (by repeat (first | exact hall | refine Kept.then_drew ?_ | refine Kept.then_drewN ?_ _ | refine Kept.then_alloc ?_ _))) hw
          rw [hpx]
          go_wp2_with fail
          go_ret
          exact ⟨ret_int' HF.out.symm, (by repeat (first | exact hall | refine Kept.then_drew ?_ | refine Kept.then_drewN ?_ _ | refine Kept.then_alloc ?_ _))⟩
        | false =>
          have hle' : (Op.bytesLess x.toList y.toList || x.toList == y.toList) = false := hle
          have he : risE p z (prevAt l (k + 1)) x = 0 := by rw [hpv.out]; exact risE_ok hpx hle
          have HN := Lib.hid (hat.next HX.out he)
          clear hat hle he
          go_wp2_with fail
          refine (HP.out x hmem _ (Kept.all (by repeat (first | exact hall | refine Kept.then_drew ?_ | refine Kept.then_drewN ?_ _ | refine Kept.then_alloc ?_ _)))).mono ?_
          rintro e w' ⟨rfl, hw⟩
          have d0 := hw.cell d0 trivial
          have hall := Kept.trans (show All w _ from (by repeat (first | exact hall | refine Kept.then_drew ?_ | refine Kept.then_drewN ?_ _ | refine Kept.then_alloc ?_ _))) hw
          rw [hpx]
          go_wp2_with fail
          go_roundw
          case rel => exact ⟨k + 1 + 1, by omega, by go_num, HN.out, (by repeat (first | exact hall | refine Kept.then_drew ?_ | refine Kept.then_drewN ?_ _ | refine Kept.then_alloc ?_ _))⟩
          case measure => simp [intOf]; omega
    · have hd : decide ((k : Int) < (len : Int)) = false := by simp; omega
      have HF := Lib.hid (show scanF (risE p z) none l = 0 from hat.ok (by have := HLEN.out; omega))
      clear hat
      go_wp2_with fail
      go_ret
      exact ⟨ret_int' HF.out.symm, (by repeat (first | exact hall | refine Kept.then_drew ?_ | refine Kept.then_drewN ?_ _ | refine Kept.then_alloc ?_ _))⟩
end Go.Proofs.YtgobnlgmbplggaaGreatDoor

/- Terms, by the program and by the reference. -/
namespace Go.Proofs.YtgobnlgmbplggaaGreatDoor
open Go.RowKit

theorem termsF_ok {h k : Int} (h1 : decide (0 ≤ h ∧ h ≤ 4000) = true) (h2 : decide (0 ≤ k ∧ k ≤ 4000) = true) : termsF h k = 0 := by rw [termsF, if_pos ⟨by simpa using h1, by simpa using h2⟩]
theorem termsF_home {h k : Int} (h1 : decide (0 ≤ h ∧ h ≤ 4000) = false) : termsF h k = 1 := by rw [termsF, if_neg (fun c => by simp [c.1] at h1)]
theorem termsF_work {h k : Int} (h2 : decide (0 ≤ k ∧ k ≤ 4000) = false) : termsF h k = 1 := by rw [termsF, if_neg (fun c => by simp [c.2] at h2)]
def TermSmall (h k : Int) : Prop := (-2000000000000 ≤ h ∧ h ≤ 2000000000000) ∧ (-2000000000000 ≤ k ∧ k ≤ 2000000000000)
theorem checkTerms_any (h k : Int) (w : World) (hs : TermSmall h k) :
    Calls Tryz.prog 17 #[.agg #[.int .i64 h, .int .i64 k]] w fun e w' => e = .returned (.int .i64 (termsF h k)) ∧ All w w' := by
  obtain ⟨hs1, hs2⟩ := hs
  have hb9 := heap_at w (.cells #[.int .i64 h, .int .i64 k] 35) _ rfl
  obtain ⟨xb, hxb⟩ : ∃ z, z = w.heap.size := ⟨_, rfl⟩
  have HXB := Lib.hid hxb
  rw [← hxb] at hb9
  have HK0 := Lib.hid (show All w (w.alloc (.cells #[.int .i64 h, .int .i64 k] 35)) from Kept.alloc _ _ _)
  clear hxb
  obtain ⟨b1, hb1⟩ : ∃ z, z = decide (0 ≤ h ∧ h ≤ 4000) := ⟨_, rfl⟩
  obtain ⟨b2, hb2⟩ : ∃ z, z = decide (0 ≤ k ∧ k ≤ 4000) := ⟨_, rfl⟩
  have H1 := Lib.hid hb1
  have H2 := Lib.hid hb2
  cases b1 with
  | false =>
    have HF := Lib.hid (termsF_home (k := k) hb1.symm)
    clear hb1 hb2
    go_enter Tryz.func17, Tryz.ntmps17
    go_upto_region 1 with fail
    simp only [← HXB.out]
    generalize w.alloc (.cells #[.int .i64 h, .int .i64 k] 35) = w9 at *
    have e0 := cell_at (i := 0) hb9 rfl
    have e1 := cell_at (i := 1) hb9 rfl
    clear hb9
    go_wp2_with fail
    refine (isDayK_any h _ hs1).mono ?_
    rintro e w' ⟨rfl, hh⟩
    subst hh
    rw [← H1.out]
    go_wp2_with fail
    go_ret
    exact ⟨ret_int' HF.out.symm, (by repeat (first | exact HK0.out | refine Kept.then_drew ?_ | refine Kept.then_drewN ?_ _ | refine Kept.then_alloc ?_ _))⟩
  | true =>
    cases b2 with
    | false =>
      have HF := Lib.hid (termsF_work (h := h) hb2.symm)
      clear hb1 hb2
      go_enter Tryz.func17, Tryz.ntmps17
      go_upto_region 1 with fail
      simp only [← HXB.out]
      generalize w.alloc (.cells #[.int .i64 h, .int .i64 k] 35) = w9 at *
      have e0 := cell_at (i := 0) hb9 rfl
      have e1 := cell_at (i := 1) hb9 rfl
      clear hb9
      go_wp2_with fail
      refine (isDayK_any h _ hs1).mono ?_
      rintro e w' ⟨rfl, hh⟩
      subst hh
      rw [← H1.out]
      go_wp2_with fail
      refine (isDayK_any k _ hs2).mono ?_
      rintro e w' ⟨rfl, hh⟩
      subst hh
      rw [← H2.out]
      go_wp2_with fail
      go_ret
      exact ⟨ret_int' HF.out.symm, (by repeat (first | exact HK0.out | refine Kept.then_drew ?_ | refine Kept.then_drewN ?_ _ | refine Kept.then_alloc ?_ _))⟩
    | true =>
      have HF := Lib.hid (termsF_ok hb1.symm hb2.symm)
      clear hb1 hb2
      go_enter Tryz.func17, Tryz.ntmps17
      go_upto_region 1 with fail
      simp only [← HXB.out]
      generalize w.alloc (.cells #[.int .i64 h, .int .i64 k] 35) = w9 at *
      have e0 := cell_at (i := 0) hb9 rfl
      have e1 := cell_at (i := 1) hb9 rfl
      clear hb9
      go_wp2_with fail
      refine (isDayK_any h _ hs1).mono ?_
      rintro e w' ⟨rfl, hh⟩
      subst hh
      rw [← H1.out]
      go_wp2_with fail
      refine (isDayK_any k _ hs2).mono ?_
      rintro e w' ⟨rfl, hh⟩
      subst hh
      rw [← H2.out]
      go_wp2_with fail
      go_ret
      exact ⟨ret_int' HF.out.symm, (by repeat (first | exact HK0.out | refine Kept.then_drew ?_ | refine Kept.then_drewN ?_ _ | refine Kept.then_alloc ?_ _))⟩
theorem termsFault_any (h k : Int) (w : World) :
    Calls Tryz.prog 18 #[.agg #[.int .i64 h, .int .i64 k]] w fun e w' => e = .returned (.int .i64 (termsF h k)) ∧ All w w' := by
  have hb9 := heap_at w (.cells #[.int .i64 h, .int .i64 k] 35) _ rfl
  obtain ⟨xb, hxb⟩ : ∃ z, z = w.heap.size := ⟨_, rfl⟩
  have HXB := Lib.hid hxb
  rw [← hxb] at hb9
  have HK0 := Lib.hid (show All w (w.alloc (.cells #[.int .i64 h, .int .i64 k] 35)) from Kept.alloc _ _ _)
  clear hxb
  obtain ⟨b1, hb1⟩ : ∃ z, z = decide (0 ≤ h ∧ h ≤ 4000) := ⟨_, rfl⟩
  obtain ⟨b2, hb2⟩ : ∃ z, z = decide (0 ≤ k ∧ k ≤ 4000) := ⟨_, rfl⟩
  have H1 := Lib.hid hb1
  have H2 := Lib.hid hb2
  cases b1 with
  | false =>
    have HF := Lib.hid (termsF_home (k := k) hb1.symm)
    clear hb1 hb2
    go_enter Tryz.func18, Tryz.ntmps18
    go_upto_region 1 with fail
    simp only [← HXB.out]
    generalize w.alloc (.cells #[.int .i64 h, .int .i64 k] 35) = w9 at *
    have e0 := cell_at (i := 0) hb9 rfl
    have e1 := cell_at (i := 1) hb9 rfl
    clear hb9
    go_wp2_with fail
    refine (in_any h 0 4000 _).mono ?_
    rintro e w' ⟨rfl, hh⟩
    subst hh
    rw [← H1.out]
    go_wp2_with fail
    go_ret
    exact ⟨ret_int' HF.out.symm, (by repeat (first | exact HK0.out | refine Kept.then_drew ?_ | refine Kept.then_drewN ?_ _ | refine Kept.then_alloc ?_ _))⟩
  | true =>
    cases b2 with
    | false =>
      have HF := Lib.hid (termsF_work (h := h) hb2.symm)
      clear hb1 hb2
      go_enter Tryz.func18, Tryz.ntmps18
      go_upto_region 1 with fail
      simp only [← HXB.out]
      generalize w.alloc (.cells #[.int .i64 h, .int .i64 k] 35) = w9 at *
      have e0 := cell_at (i := 0) hb9 rfl
      have e1 := cell_at (i := 1) hb9 rfl
      clear hb9
      go_wp2_with fail
      refine (in_any h 0 4000 _).mono ?_
      rintro e w' ⟨rfl, hh⟩
      subst hh
      rw [← H1.out]
      go_wp2_with fail
      refine (in_any k 0 4000 _).mono ?_
      rintro e w' ⟨rfl, hh⟩
      subst hh
      rw [← H2.out]
      go_wp2_with fail
      go_ret
      exact ⟨ret_int' HF.out.symm, (by repeat (first | exact HK0.out | refine Kept.then_drew ?_ | refine Kept.then_drewN ?_ _ | refine Kept.then_alloc ?_ _))⟩
    | true =>
      have HF := Lib.hid (termsF_ok hb1.symm hb2.symm)
      clear hb1 hb2
      go_enter Tryz.func18, Tryz.ntmps18
      go_upto_region 1 with fail
      simp only [← HXB.out]
      generalize w.alloc (.cells #[.int .i64 h, .int .i64 k] 35) = w9 at *
      have e0 := cell_at (i := 0) hb9 rfl
      have e1 := cell_at (i := 1) hb9 rfl
      clear hb9
      go_wp2_with fail
      refine (in_any h 0 4000 _).mono ?_
      rintro e w' ⟨rfl, hh⟩
      subst hh
      rw [← H1.out]
      go_wp2_with fail
      refine (in_any k 0 4000 _).mono ?_
      rintro e w' ⟨rfl, hh⟩
      subst hh
      rw [← H2.out]
      go_wp2_with fail
      go_ret
      exact ⟨ret_int' HF.out.symm, (by repeat (first | exact HK0.out | refine Kept.then_drew ?_ | refine Kept.then_drewN ?_ _ | refine Kept.then_alloc ?_ _))⟩
end Go.Proofs.YtgobnlgmbplggaaGreatDoor
