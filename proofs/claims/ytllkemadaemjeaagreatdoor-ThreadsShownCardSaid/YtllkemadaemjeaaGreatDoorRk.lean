/- CheckMarks and MarksFault answer marksF. -/
import Derived.Test.YtllkemadaemjeaaGreatDoorRb
import Derived.Test.YtllkemadaemjeaaGreatDoorRa
import Derived.Test.YtllkemadaemjeaaGreatDoorZc
import Derived.Test.YtllkemadaemjeaaGreatDoorSa
import Derived.Test.YtllkemadaemjeaaGreatDoorMb
import Derived.Carry
import Derived.Test.YtllkemadaemjeaaGreatDoorEq
namespace Go.Proofs.YtllkemadaemjeaaGreatDoor
open Go.RowKit

set_option maxRecDepth 100000 in
set_option maxHeartbeats 6400000 in
theorem checkMarks_any (a : Option Addr) (len cap : Nat) (xs : List Mark3) (w : World) (hs : Sl RMark 3 (fun _ => True) w a len xs) (hl : len ≤ 1000000) :
    Calls Tryz.prog 112 #[.slice a len cap] w fun e w' => e = .returned (.int .i64 (marksF xs)) ∧ All w w' := by
  have Hlen := Lib.hid hs.len
  by_cases hbig : 3000 < len
  · have hfin := Lib.hid (marksF_large (xs := xs) (by have := Hlen.out; omega))
    have hd : decide ((3000 : Int) < (len : Int)) = true := by simp; omega
    go_enter Tryz.func112, Tryz.ntmps112
    go_wp2_with fail
    go_ret
    exact ⟨ret_int' hfin.out.symm, Kept.refl _ _⟩
  · have hfin := Lib.hid (marksF_some (xs := xs) (by have := Hlen.out; omega))
    have hd : decide ((3000 : Int) < (len : Int)) = false := by simp; omega
    go_enter Tryz.func112, Tryz.ntmps112
    go_wp2_with fail
    go_loopw [10] (fun i wr => ∃ k : Nat, k ≤ len ∧ i = .int .i64 k ∧ MarkAt xs k ∧ All w wr) (fun i _ => len - (intOf i).toNat)
    case atStart => exact ⟨0, Nat.zero_le _, rfl, MarkAt.zero _, Kept.refl _ _⟩
    case round =>
      obtain ⟨k, hk, rfl, hat, hwr⟩ := hrel
      obtain ⟨wo, rfl⟩ : ∃ wo : World, wo = wr := ⟨_, rfl⟩
      have HA := Lib.hid hat
      clear hat
      by_cases hlt : k < len
      · obtain ⟨b, off, x, ha, -, c0, c1, c2, hz1, hz2, hx, -, -⟩ := (hs.keep RMark.ok hwr).atMark hlt
        subst ha
        have Hx := Lib.hid hx
        have hblk := heap_at wo (.cells #[.string x.paper, .string x.person, .int .i64 x.score] 117) _ rfl
        have e0 := cell_at (i := 0) hblk rfl
        have e1 := cell_at (i := 1) hblk rfl
        have e2 := cell_at (i := 2) hblk rfl
        have hwa : All w (wo.alloc (.cells #[.string x.paper, .string x.person, .int .i64 x.score] 117)) := hwr.then_alloc _
        clear hx hblk
        cases hk1 : isKeyB x.paper
        · go_wp2_with fail
          refine (isKey_any x.paper _ (by omega)).mono ?_
          rintro e w' ⟨rfl, hh⟩
          subst hh
          rw [hk1]
          go_wp2_with fail
          go_ret
          exact ⟨ret_int' (by rw [hfin.out]; exact (HA.out.bad Hx.out (markF_name hk1) (by decide)).symm), hwa⟩
        · have HK1 := Lib.hid hk1
          cases hk2 : isKeyB x.person
          · go_wp2_with fail
            refine (isKey_any x.paper _ (by omega)).mono ?_
            rintro e w' ⟨rfl, hh⟩
            subst hh
            rw [hk1]
            go_wp2_with fail
            refine (isKey_any x.person _ (by omega)).mono ?_
            rintro e w' ⟨rfl, hh⟩
            subst hh
            rw [hk2]
            go_wp2_with fail
            go_ret
            exact ⟨ret_int' (by rw [hfin.out]; exact (HA.out.bad Hx.out (markF_name2 HK1.out hk2) (by decide)).symm), hwa⟩
          · have HK2 := Lib.hid hk2
            rcases Nat.eq_zero_or_pos k with hk0 | hk0
            · subst hk0
              have d0 : wo.cell? ⟨b, off, none⟩ = some (.string x.paper) := by simpa using c0
              have d1 : wo.cell? ⟨b, off + 1, none⟩ = some (.string x.person) := by simpa using c1
              have d2 : wo.cell? ⟨b, off + 2, none⟩ = some (.int .i64 x.score) := by simpa using c2
              have hgd : decide ((0 : Int) < ((0 : Nat) : Int)) = false := by simp
              have HO := Lib.hid (show ordM (xs.take 0).getLast? x = false by simp [ordM])
              by_cases hsc : x.score < 0 ∨ 10 < x.score
              · have hdo : decide (x.score < 0 ∨ 10 < x.score) = true := by simpa using hsc
                have HSC := Lib.hid hsc
                clear hsc
                go_wp2_with fail
                refine (isKey_any x.paper _ (by omega)).mono ?_
                rintro e w' ⟨rfl, hh⟩
                subst hh
                rw [hk1]
                go_wp2_with fail
                refine (isKey_any x.person _ (by omega)).mono ?_
                rintro e w' ⟨rfl, hh⟩
                subst hh
                rw [hk2]
                go_wp2_with fail
                go_quiet (fail)
                go_wp2_with fail
                refine (outside_any _ _ _ _).mono ?_
                rintro e w' ⟨rfl, rfl⟩
                rw [hdo]
                go_wp2_with fail
                go_ret
                exact ⟨ret_int' (by rw [hfin.out]; exact (HA.out.bad Hx.out (markF_arg HK1.out HK2.out HO.out HSC.out) (by decide)).symm), hwa.then_drewN _⟩
              · have hdo : decide (x.score < 0 ∨ 10 < x.score) = false := by simpa using hsc
                have HSC := Lib.hid hsc
                clear hsc
                go_wp2_with fail
                refine (isKey_any x.paper _ (by omega)).mono ?_
                rintro e w' ⟨rfl, hh⟩
                subst hh
                rw [hk1]
                go_wp2_with fail
                refine (isKey_any x.person _ (by omega)).mono ?_
                rintro e w' ⟨rfl, hh⟩
                subst hh
                rw [hk2]
                go_wp2_with fail
                go_quiet (fail)
                go_wp2_with fail
                refine (outside_any _ _ _ _).mono ?_
                rintro e w' ⟨rfl, rfl⟩
                rw [hdo]
                go_wp2_with fail
                go_roundw
                case rel => exact ⟨0 + 1, by omega, by go_num, HA.out.next Hx.out (markF_ok HK1.out HK2.out HO.out HSC.out), hwa.then_drewN _⟩
                case measure => simp [intOf]; omega
            · obtain ⟨kp, rfl⟩ : ∃ kp, k = kp + 1 := ⟨k - 1, by omega⟩
              obtain ⟨bq, oq, y, haq, -, p0, p1, -, hw1, hw2, hy, -, -⟩ := (hs.keep RMark.ok hwr).atMark (k := kp) (by omega)
              cases haq
              have hlast : (xs.take (kp + 1)).getLast? = some y := last_take hy
              have q0 := (Kept.alloc (fun _ => True) wo (.cells #[.string x.paper, .string x.person, .int .i64 x.score] 117)).cell p0 trivial
              have q1 := (Kept.alloc (fun _ => True) wo (.cells #[.string x.paper, .string x.person, .int .i64 x.score] 117)).cell p1 trivial
              clear p0 p1 hy
              cases hord : decide (0 ≤ cmpP y.paper y.person x.paper x.person)
              · have HO := Lib.hid (show ordM (xs.take (kp + 1)).getLast? x = false by rw [hlast]; exact hord)
                clear hlast
                by_cases hsc : x.score < 0 ∨ 10 < x.score
                · have hdo : decide (x.score < 0 ∨ 10 < x.score) = true := by simpa using hsc
                  have HSC := Lib.hid hsc
                  clear hsc
                  go_wp2_with fail
                  refine (isKey_any x.paper _ (by omega)).mono ?_
                  rintro e w' ⟨rfl, hh⟩
                  subst hh
                  rw [hk1]
                  go_wp2_with fail
                  refine (isKey_any x.person _ (by omega)).mono ?_
                  rintro e w' ⟨rfl, hh⟩
                  subst hh
                  rw [hk2]
                  go_wp2_with fail
                  have f1 : IntKind.i64.wrap (kp : Int) = (kp : Int) := IntWalk.i64_in _ (by omega)
                  have f3 : (0 : Int) ≤ (kp : Int) := by omega
                  have f4 : (kp : Int) < (len : Int) := by omega
                  go_region_held3 (fun w' => w'.cell? ⟨b, off + kp * 3, none⟩ = some (.string y.paper) ∧ w'.cell? ⟨b, off + kp * 3 + 1, none⟩ = some (.string y.person) ∧ w'.cell? ⟨wo.heap.size, 0, none⟩ = some (.string x.paper) ∧ w'.cell? ⟨wo.heap.size, 1, none⟩ = some (.string x.person) ∧ w'.cell? ⟨wo.heap.size, 2, none⟩ = some (.int .i64 x.score)) (first | go_keep | exact ⟨by assumption, by assumption, by assumption, by assumption, by assumption⟩) (first | (go_at_call 151; refine (comparePairs_any _ _ _ _ _).mono ?_; rintro e q ⟨rfl, hq⟩; have hp1 : All (wo.alloc (.cells #[.string x.paper, .string x.person, .int .i64 x.score] 117)) q := Kept.trans (by repeat (first | exact Kept.refl _ _ | refine Kept.then_drew ?_ | refine Kept.then_drewN ?_ _ | refine Kept.then_alloc ?_ _)) hq; have a0 := hp1.cell q0 trivial; have a1 := hp1.cell q1 trivial; have a2 := hp1.cell e0 trivial; have a3 := hp1.cell e1 trivial; have a4 := hp1.cell e2 trivial))
                  clear f1 f3 f4
                  go_wp2_with fail
                  refine (outside_any _ _ _ _).mono ?_
                  rintro e w' ⟨rfl, rfl⟩
                  rw [hdo]
                  go_wp2_with fail
                  go_ret
                  exact ⟨ret_int' (by rw [hfin.out]; exact (HA.out.bad Hx.out (markF_arg HK1.out HK2.out HO.out HSC.out) (by decide)).symm), (hwa.trans hp1)⟩
                · have hdo : decide (x.score < 0 ∨ 10 < x.score) = false := by simpa using hsc
                  have HSC := Lib.hid hsc
                  clear hsc
                  go_wp2_with fail
                  refine (isKey_any x.paper _ (by omega)).mono ?_
                  rintro e w' ⟨rfl, hh⟩
                  subst hh
                  rw [hk1]
                  go_wp2_with fail
                  refine (isKey_any x.person _ (by omega)).mono ?_
                  rintro e w' ⟨rfl, hh⟩
                  subst hh
                  rw [hk2]
                  go_wp2_with fail
                  have f1 : IntKind.i64.wrap (kp : Int) = (kp : Int) := IntWalk.i64_in _ (by omega)
                  have f3 : (0 : Int) ≤ (kp : Int) := by omega
                  have f4 : (kp : Int) < (len : Int) := by omega
                  go_region_held3 (fun w' => w'.cell? ⟨b, off + kp * 3, none⟩ = some (.string y.paper) ∧ w'.cell? ⟨b, off + kp * 3 + 1, none⟩ = some (.string y.person) ∧ w'.cell? ⟨wo.heap.size, 0, none⟩ = some (.string x.paper) ∧ w'.cell? ⟨wo.heap.size, 1, none⟩ = some (.string x.person) ∧ w'.cell? ⟨wo.heap.size, 2, none⟩ = some (.int .i64 x.score)) (first | go_keep | exact ⟨by assumption, by assumption, by assumption, by assumption, by assumption⟩) (first | (go_at_call 151; refine (comparePairs_any _ _ _ _ _).mono ?_; rintro e q ⟨rfl, hq⟩; have hp1 : All (wo.alloc (.cells #[.string x.paper, .string x.person, .int .i64 x.score] 117)) q := Kept.trans (by repeat (first | exact Kept.refl _ _ | refine Kept.then_drew ?_ | refine Kept.then_drewN ?_ _ | refine Kept.then_alloc ?_ _)) hq; have a0 := hp1.cell q0 trivial; have a1 := hp1.cell q1 trivial; have a2 := hp1.cell e0 trivial; have a3 := hp1.cell e1 trivial; have a4 := hp1.cell e2 trivial))
                  clear f1 f3 f4
                  go_wp2_with fail
                  refine (outside_any _ _ _ _).mono ?_
                  rintro e w' ⟨rfl, rfl⟩
                  rw [hdo]
                  go_wp2_with fail
                  go_roundw
                  case rel => exact ⟨(kp + 1) + 1, by omega, by go_num, HA.out.next Hx.out (markF_ok HK1.out HK2.out HO.out HSC.out), (hwa.trans hp1)⟩
                  case measure => simp [intOf]; omega
              · have HO := Lib.hid (show ordM (xs.take (kp + 1)).getLast? x = true by rw [hlast]; exact hord)
                clear hlast
                go_wp2_with fail
                refine (isKey_any x.paper _ (by omega)).mono ?_
                rintro e w' ⟨rfl, hh⟩
                subst hh
                rw [hk1]
                go_wp2_with fail
                refine (isKey_any x.person _ (by omega)).mono ?_
                rintro e w' ⟨rfl, hh⟩
                subst hh
                rw [hk2]
                go_wp2_with fail
                have f1 : IntKind.i64.wrap (kp : Int) = (kp : Int) := IntWalk.i64_in _ (by omega)
                have f3 : (0 : Int) ≤ (kp : Int) := by omega
                have f4 : (kp : Int) < (len : Int) := by omega
                go_region_held3 (fun w' => w'.cell? ⟨b, off + kp * 3, none⟩ = some (.string y.paper) ∧ w'.cell? ⟨b, off + kp * 3 + 1, none⟩ = some (.string y.person) ∧ w'.cell? ⟨wo.heap.size, 0, none⟩ = some (.string x.paper) ∧ w'.cell? ⟨wo.heap.size, 1, none⟩ = some (.string x.person) ∧ w'.cell? ⟨wo.heap.size, 2, none⟩ = some (.int .i64 x.score)) (first | go_keep | exact ⟨by assumption, by assumption, by assumption, by assumption, by assumption⟩) (first | (go_at_call 151; refine (comparePairs_any _ _ _ _ _).mono ?_; rintro e q ⟨rfl, hq⟩; have hp1 : All (wo.alloc (.cells #[.string x.paper, .string x.person, .int .i64 x.score] 117)) q := Kept.trans (by repeat (first | exact Kept.refl _ _ | refine Kept.then_drew ?_ | refine Kept.then_drewN ?_ _ | refine Kept.then_alloc ?_ _)) hq; have a0 := hp1.cell q0 trivial; have a1 := hp1.cell q1 trivial; have a2 := hp1.cell e0 trivial; have a3 := hp1.cell e1 trivial; have a4 := hp1.cell e2 trivial))
                clear f1 f3 f4
                go_wp2_with fail
                go_ret
                exact ⟨ret_int' (by rw [hfin.out]; exact (HA.out.bad Hx.out (markF_order HK1.out HK2.out HO.out) (by decide)).symm), (hwa.trans hp1)⟩
      · have hdk : decide ((k : Int) < (len : Int)) = false := by simp; omega
        go_wp2_with fail
        go_ret
        exact ⟨ret_int' (by rw [hfin.out]; exact (HA.out.ok (by have := Hlen.out; omega)).symm), hwr⟩
end Go.Proofs.YtllkemadaemjeaaGreatDoor

/- Sums, greatest common divisors, fractions. -/
namespace Go.Proofs.YtllkemadaemjeaaGreatDoor
open Go.RowKit

theorem sumOf_any (a : Option Addr) (len cap : Nat) (zs : List Int) (w : World) (hs : Sl RInt 1 (fun _ => True) w a len zs) (hl : len ≤ 1000000) (hz : ∀ z ∈ zs, 0 ≤ z ∧ z ≤ 10) :
    Calls Tryz.prog 115 #[.slice a len cap] w fun e w' => e = .returned (.int .i64 (sumI zs)) ∧ w = w' := by
  have Hlen := Lib.hid hs.len
  have HZ := Lib.hid hz
  clear hz
  go_enter Tryz.func115, Tryz.ntmps115
  go_wp2_with fail
  go_loop [3, 8] (fun n i => ∃ k : Nat, k ≤ len ∧ i = .int .i64 k ∧ n = .int .i64 (sumI (zs.take k))) (fun _ i => len - (intOf i).toNat)
  case atStart => exact ⟨0, Nat.zero_le _, rfl, by simp [sumI]⟩
  case round =>
    obtain ⟨k, hk, rfl, rfl⟩ := hrel
    by_cases hlt : k < len
    · obtain ⟨b, off, y, ha, -, cy, hy, -, ht⟩ := hs.atInt hlt
      subst ha
      have hy1 := HZ.out y (List.mem_of_getElem? hy)
      obtain ⟨hy1, hy2⟩ := hy1
      have hb := sumI_bound (l := zs.take k) (M := 10) (fun z hz => HZ.out z (List.mem_of_mem_take hz))
      have hbl : ((zs.take k).length : Int) ≤ 1000000 := by simp; omega
      have hs1 : 0 ≤ sumI (zs.take k) := hb.1
      have hs2 : sumI (zs.take k) ≤ 10000000 := by have := hb.2; omega
      have HN := Lib.hid (sumI_succ ht)
      clear hb hbl ht hy
      generalize sumI (zs.take k) = sk at *
      go_wp2_with fail
      go_round
      case rel => exact ⟨k + 1, by omega, by go_num, by rw [HN.out]⟩
      case measure => simp [intOf]; omega
    · have hd : decide ((k : Int) < (len : Int)) = false := by simp; omega
      have he := Lib.hid (show zs.take k = zs from List.take_of_length_le (by have := Hlen.out; omega))
      go_wp2_with fail
      go_ret
      exact ⟨ret_int' (by rw [he.out]), rfl⟩
theorem gcd_emod (a b : Int) (ha : 0 ≤ a) : Int.gcd b (a % b) = Int.gcd a b := by
  rw [← Int.tmod_eq_emod_of_nonneg ha]; exact gcd_tmod a b
set_option maxHeartbeats 800000 in
theorem gcd_any (a b : Int) (w : World) (ha : 0 ≤ a) (ha2 : a ≤ 1000000000000) (hb : 0 ≤ b) (hb2 : b ≤ 1000000000000) :
    Calls Tryz.prog 158 #[.int .i64 a, .int .i64 b] w fun e w' => e = .returned (.int .i64 (Int.gcd a b)) ∧ All w w' := by
  go_enter Tryz.func158, Tryz.ntmps158
  go_wp2_with fail
  go_loopw [0, 1] (fun x y wr => ∃ p q : Int, x = .int .i64 p ∧ y = .int .i64 q ∧ 0 ≤ p ∧ p ≤ 1000000000000 ∧ 0 ≤ q ∧ q ≤ 1000000000000 ∧ Int.gcd p q = Int.gcd a b ∧ All w wr) (fun _ y _ => (intOf y).toNat)
  case atStart => exact ⟨a, b, rfl, rfl, ha, ha2, hb, hb2, rfl, Kept.refl _ _⟩
  case round =>
    obtain ⟨p, q, rfl, rfl, hp1, hp2, hq1, hq2, hg, hw⟩ := hrel
    obtain ⟨wo, rfl⟩ : ∃ wo : World, wo = wr := ⟨_, rfl⟩
    by_cases h0 : q = 0
    · subst h0
      have he : (Int.gcd a b : Int) = p := by rw [← hg, Int.gcd_zero_right]; omega
      have HE := Lib.hid he
      clear he hg
      go_wp2_with fail
      go_ret
      exact ⟨ret_int' (by rw [HE.out]; omega), hw⟩
    · have hne : (q != 0) = true := by simpa using h0
      have hr1 : 0 ≤ p % q := Int.emod_nonneg _ h0
      have hr2 : p % q < q := Int.emod_lt_of_pos _ (by omega)
      have HG := Lib.hid (show Int.gcd q (p % q) = Int.gcd a b by rw [gcd_emod p q hp1]; exact hg)
      clear hg
      go_wp2_with fail
      go_quiet (fail)
      go_wp2_with fail
      go_roundw
      case rel => exact ⟨q, p % q, rfl, rfl, hq1, hq2, hr1, by omega, HG.out, hw.then_drewN _⟩
      case measure => simp [intOf]; omega

theorem box2' {w : World} {b : Nat} {t : TypeId} {a0 a1 : Value} (h : w.heap[b]? = some (.cells #[a0, a1] t (0, 0))) (u0 u1 : Value) :
    ((w.setCell ⟨b, 0, none⟩ u0).setCell ⟨b, 1, none⟩ u1).heap[b]? = some (.cells #[u0, u1] t (0, 0)) := by
  have h0 := heap_setCell_at w b 0 u0 _ _ _ h
  have h1 := heap_setCell_at _ b 1 u1 _ _ _ h0
  simpa using h1
theorem box2 {w : World} {b : Nat} {t : TypeId} {a0 a1 : Value} (h : w.heap[b]? = some (.cells #[a0, a1] t (0, 0))) (u0 u1 : Value) :
    ((w.setCell ⟨b, 0, none⟩ u0).setCell ⟨b, 1, none⟩ u1).drew.heap[b]? = some (.cells #[u0, u1] t (0, 0)) := by
  have h0 := heap_setCell_at w b 0 u0 _ _ _ h
  have h1 := heap_setCell_at _ b 1 u1 _ _ _ h0
  have h2 : ((w.setCell ⟨b, 0, none⟩ u0).setCell ⟨b, 1, none⟩ u1).drew.heap[b]? = ((w.setCell ⟨b, 0, none⟩ u0).setCell ⟨b, 1, none⟩ u1).heap[b]? := rfl
  rw [h2]
  simpa using h1
theorem ret_frac {a b c d : Int} (h : a = c) (h2 : b = d) : Ending.returned (.agg #[.int .i64 a, .int .i64 b]) = .returned (.agg #[.int .i64 c, .int .i64 d]) := by rw [h, h2]
set_option maxHeartbeats 800000 in
theorem lowest_any (n d : Int) (w : World) (hn : 0 ≤ n) (hn2 : n ≤ 1000000000000) (hd : 1 ≤ d) (hd2 : d ≤ 1000000000000) :
    Calls Tryz.prog 114 #[.int .i64 n, .int .i64 d] w fun e w' => e = .returned (.agg #[.int .i64 (lowNum n d), .int .i64 (lowDen n d)]) ∧ All w w' := by
  have hdd : decide (d < 0) = false := by simp; omega
  have hg1 : 1 ≤ (Int.gcd n d : Int) := by
    have : 0 < Int.gcd n d := Int.gcd_pos_of_ne_zero_right _ (by omega)
    omega
  have hg2 : (Int.gcd n d : Int) ≤ d := Int.le_of_dvd (by omega) (Int.gcd_dvd_right _ _)
  have HN := Lib.hid (show lowNum n d = n.tdiv (Int.gcd n d) from rfl)
  have HD := Lib.hid (show lowDen n d = d.tdiv (Int.gcd n d) from rfl)
  have hq1 : n.tdiv (Int.gcd n d) = n / (Int.gcd n d : Int) := Int.tdiv_eq_ediv_of_nonneg hn
  have hq2 : d.tdiv (Int.gcd n d) = d / (Int.gcd n d : Int) := Int.tdiv_eq_ediv_of_nonneg (by omega)
  have hk1 : All w (w.alloc (.cells #[.int .i64 0, .int .i64 0] 113)) := Kept.alloc _ _ _
  have hrb := heap_at w (.cells #[.int .i64 0, .int .i64 0] 113) _ rfl
  go_enter Tryz.func114, Tryz.ntmps114
  go_wp2_with fail
  refine (gcd_any n d _ hn hn2 (by omega) hd2).mono ?_
  rintro e w2 ⟨rfl, hw2⟩
  have hrb2 := hw2.heap hrb trivial
  have hk2 := hk1.trans hw2
  generalize (Int.gcd n d : Int) = g at *
  rw [hq1] at HN
  rw [hq2] at HD
  have hx1 : 0 ≤ n / g := Int.ediv_nonneg hn (by omega)
  have hx2 : n / g ≤ n := Int.ediv_le_self _ hn
  have hy1 : 0 ≤ d / g := Int.ediv_nonneg (by omega) (by omega)
  have hy2 : d / g ≤ d := Int.ediv_le_self _ (by omega)
  have c0 := cell_at (i := 0) hrb2 rfl
  have c1 := cell_at (i := 1) hrb2 rfl
  have z0 := frozen_at (i := 0) hrb2
  have z1 := frozen_at (i := 1) hrb2
  have hfin := box2 hrb2 (.int .i64 (n / g)) (.int .i64 (d / g))
  have r0 := cell_at (i := 0) hfin rfl
  have r1 := cell_at (i := 1) hfin rfl
  clear hq1 hq2 hrb hrb2 hw2 hk1 hfin
  go_wp2_with fail
  go_region
  go_wp2_with fail
  refine bodyPost_ret (v := .agg #[.int .i64 (n / g), .int .i64 (d / g)]) ?_ rfl ⟨ret_frac HN.out.symm HD.out.symm, ((hk2.then_setNew _ _ (by simp)).then_setNew _ _ (by simp)).then_drew⟩
  simp [results, Tryz.results114, go_sem, r0, r1]
end Go.Proofs.YtllkemadaemjeaaGreatDoor

/- scoresOf: the scores of each paper, sorted, in a map of the call's own. -/
namespace Go.Proofs.YtllkemadaemjeaaGreatDoor
open Go.RowKit

/-- The map in block mb holds, at each paper that has scores, a row of the call's own (from block B on) with the scores f. -/
structure SC (w : World) (B mb n : Nat) (vals : ByteArray → Value) (f : ByteArray → List Int) : Prop where
  map : MapS Tryz.prog 9 w mb n (fun p => if f p = [] then none else some (vals p))
  acc : ∀ p, Acc RInt 1 3 (fun _ => False) B w (vals p) (f p)
  nil : ∀ p, f p = [] → vals p = .slice none 0 0
  sep : ∀ p q k, p ≠ q → (vals p).ownBlock = some k → (vals q).ownBlock ≠ some k
theorem SC.start (w : World) : SC (w.alloc (.map #[] 0)) (w.heap.size + 1) w.heap.size 0 (fun _ => .slice none 0 0) (fun _ => []) :=
  ⟨(MapS.made Tryz.prog 9 w).congr (fun _ => by simp), fun _ => Acc.nil _ _ _ _ _ _, fun _ _ => rfl, fun p q k _ h => by simp [Value.ownBlock] at h⟩
section
variable {w w' w2 : World} {B mb n : Nat} {vals : ByteArray → Value} {f : ByteArray → List Int}
theorem SC.keep (h : SC w B mb n vals f) (k : All w w') : SC w' B mb n vals f :=
  ⟨h.map.keep k trivial, fun p => (h.acc p).keepAll RInt.ok k, h.nil, h.sep⟩
theorem SC.look (h : SC w B mb n vals f) {t : TypeId} (ht : Tryz.prog.underlying t = some (.map 9 22)) (p : ByteArray) (hp : p.size ≤ 1000000) :
    (Instr.lookup t (.map (some mb)) (.string p) false).run Tryz.prog w = .ok (vals p) w := by
  have h1 := h.map.look Tryz.underlying9 ht (Tryz.zeroValue22 w) p hp
  rw [h1]
  by_cases hf : f p = []
  · simp [hf, h.nil p hf]
  · simp [hf]
/-- The map is written to. -/
theorem SC.putAt {W0 : World} {t : TypeId} (h : SC w B mb n vals f) (ht : Tryz.prog.underlying t = some (.map 9 22)) (hmB : mb < B) {p : ByteArray} (hg : W0.grownBy w' (vals p).ownBlock) (hk : All w W0) (hn : n ≤ 1000000) (hp : p.size ≤ 1000000) (v' : Value) :
    ∃ w2, (Instr.mapUpdate t (.map (some mb)) (.string p) v').run Tryz.prog w' = .ok () w2 ∧ MapS Tryz.prog 9 w2 mb (n + 1) (putS (fun p => if f p = [] then none else some (vals p)) p v') ∧ But mb w' w2 := by
  have h0 := h.map.keep hk trivial
  have hkp : Kept (fun k => (vals p).ownBlock ≠ some k) W0 w' := ⟨hg.os, hg.tape, hg.output, hg.size, fun k hk hf => hg.block k hk (fun e => hf e.symm)⟩
  have h1 := h0.keep hkp (fun e => by have := ((h.acc p).lt _ e).1; omega)
  exact h1.put Tryz.underlying9 ht hn p hp v'
/-- One score more. -/
theorem SC.push (h : SC w B mb n vals f) (hmB : mb < B) {p : ByteArray} {x : Int} {v' : Value} (hacc : Acc RInt 1 3 (fun _ => False) B w' v' (f p ++ [x])) (hg : w.grownBy w' (vals p).ownBlock) (hat : v'.ownBlock = (vals p).ownBlock ∨ v'.ownBlock = some w.heap.size)
    (hm : MapS Tryz.prog 9 w2 mb (n + 1) (putS (fun p => if f p = [] then none else some (vals p)) p v')) (hb : But mb w' w2) :
    SC w2 B mb (n + 1) (fun q => if q = p then v' else vals q) (fun q => if q = p then f p ++ [x] else f q) := by
  have hkp : Kept (fun k => (vals p).ownBlock ≠ some k) w w' := ⟨hg.os, hg.tape, hg.output, hg.size, fun k hk hf => hg.block k hk (fun e => hf e.symm)⟩
  refine ⟨hm.congr (fun q => ?_), fun q => ?_, fun q hq => ?_, fun a b k hab ha => ?_⟩
  · by_cases hq : q = p
    · subst hq; simp [putS]
    · simp [putS, hq]
  · by_cases hq : q = p
    · subst hq
      simp only [if_true]
      exact hacc.keep RInt.ok hb (fun _ h => h.elim) (fun k hk => by have := (hacc.lt k hk).1; omega)
    · simp only [hq, if_false]
      have h1 := (h.acc q).keep RInt.ok hkp (fun _ h => h.elim) (fun k hk e => h.sep q p k hq hk e)
      exact h1.keep RInt.ok hb (fun _ h => h.elim) (fun k hk => by have := (h1.lt k hk).1; omega)
  · by_cases hqp : q = p
    · simp [hqp] at hq
    · simp only [hqp, if_false] at hq ⊢
      exact h.nil q hq
  · by_cases hap : a = p
    · subst hap
      have hbp : ¬ b = a := fun e => hab e.symm
      simp only [if_true] at ha
      simp only [hbp, if_false]
      rcases hat with e | e
      · rw [e] at ha; exact h.sep a b k hab ha
      · rw [e] at ha
        cases ha
        intro hk
        have := ((h.acc b).lt _ hk).2
        omega
    · simp only [hap, if_false] at ha
      by_cases hbp : b = p
      · subst hbp
        simp only [if_true]
        intro hk
        rcases hat with e | e
        · rw [e] at hk; exact h.sep a b k hab ha hk
        · rw [e] at hk
          cases hk
          have := ((h.acc a).lt _ ha).2
          omega
      · simp only [hbp, if_false]
        exact h.sep a b k hab ha
end

theorem grown_cell {W0 w7 : World} {row : Option Nat} {p : Addr} {v : Value} (hg : W0.grownBy w7 row) (hc : W0.cell? p = some v) (hne : row ≠ some p.block) : w7.cell? p = some v := by
  have hk : Kept (fun k => row ≠ some k) W0 w7 := ⟨hg.os, hg.tape, hg.output, hg.size, fun k hk hf => hg.block k hk (fun e => hf e.symm)⟩
  exact hk.cell hc hne
def ScoresPost (xs : List Mark3) (w : World) (e : Ending) (w' : World) : Prop :=
  ∃ mb n vals, e = .returned (.map (some mb)) ∧ SC w' w.heap.size mb n vals (fun p => srtI (scs xs p)) ∧ All w w'

set_option maxRecDepth 100000 in
set_option maxHeartbeats 6400000 in
theorem scoresOf_any (a : Option Addr) (len cap : Nat) (xs : List Mark3) (w : World) (hs : Sl RMark 3 (fun _ => True) w a len xs) (hl : len ≤ 3000) :
    Calls Tryz.prog 113 #[.slice a len cap] w (ScoresPost xs w) := by
  have Hlen := Lib.hid hs.len
  have hmm := @run_makeMap Tryz.prog
  have hk0 : All w (w.alloc (.map #[] 0)) := Kept.alloc _ _ _
  have hsc0 := SC.start w
  obtain ⟨mb, hmb⟩ : ∃ mb, mb = w.heap.size := ⟨_, rfl⟩
  obtain ⟨B, hB⟩ : ∃ B, B = w.heap.size + 1 := ⟨_, rfl⟩
  have HB := Lib.hid hB
  have HMB := Lib.hid hmb
  have hmB : mb < B := by omega
  have hB1 : B ≤ (w.alloc (.map #[] 0)).heap.size := by rw [hB]; simp
  rw [← hB, ← hmb] at hsc0
  have HW1 : (w.alloc (.map #[] 0)).heap.size ≤ B := by rw [hB]; simp
  have HWm : w.heap.size ≤ mb := by omega
  replace hs := ((hs.live RMark.ok (by decide)).mono RMark.ok (G := fun k => k ≠ mb) (fun k hk => by have := hk.2; omega)).keep RMark.ok (Kept.alloc _ w (.map #[] 0))
  clear hB hmb
  go_enter Tryz.func113, Tryz.ntmps113
  go_wp2_with fail
  simp only [← HMB.out]
  generalize w.alloc (.map #[] 0) = w1 at *
  go_loopw [11] (fun i wr => ∃ k : Nat, k ≤ len ∧ i = .int .i64 k ∧ ∃ n vals, n ≤ k ∧ SC wr B mb n vals (scs (xs.take k)) ∧ But mb w1 wr) (fun i _ => len - (intOf i).toNat)
  case atStart => exact ⟨0, Nat.zero_le _, rfl, 0, _, Nat.zero_le _, hsc0, Kept.refl _ _⟩
  case round =>
    clear hsc0 hmm
    obtain ⟨k, hk, rfl, n, vals, hnk, hsc, hwr⟩ := hrel
    obtain ⟨wo, rfl⟩ : ∃ wo : World, wo = wr := ⟨_, rfl⟩
    by_cases hlt : k < len
    · obtain ⟨b, off, x, ha, -, c0, c1, c2, hz1, hz2, hx, -, hxt⟩ := (hs.keep RMark.ok hwr).atMark hlt
      subst ha
      have HXT := Lib.hid hxt
      have hblk := heap_at wo (.cells #[.string x.paper, .string x.person, .int .i64 x.score] 117) _ rfl
      have e0 := cell_at (i := 0) hblk rfl
      have e2 := cell_at (i := 2) hblk rfl
      have hwa := hwr.then_alloc (.cells #[.string x.paper, .string x.person, .int .i64 x.score] 117)
      have hsca := hsc.keep (Kept.alloc (fun _ => True) wo (.cells #[.string x.paper, .string x.person, .int .i64 x.score] 117))
      have hfl : (scs (xs.take k) x.paper).length + 1 ≤ 1000000000 := by
        have h1 := scs_len (xs.take k) x.paper
        have h2 := List.length_take_le k xs
        omega
      have hwas := hwa.size
      have hrow : ∀ k, (vals x.paper).ownBlock = some k → k < wo.heap.size := fun k hk => ((hsc.acc x.paper).lt k hk).2
      clear hx hxt hblk hsc hwr
      go_wp2_with fail
      generalize wo.alloc (.cells #[.string x.paper, .string x.person, .int .i64 x.score] 117) = wa at *
      have l1 := (hsca.keep (Kept.drew (fun _ => True) wa)).look Tryz.underlying159 x.paper hz1
      have l2 := (hsca.keep ((by repeat (first | exact Kept.refl _ _ | refine Kept.then_drew ?_ | refine Kept.then_drewN ?_ _ | refine Kept.then_alloc ?_ _)) : All wa (wa.alloc (.cells #[.int .i64 x.score] 3)).drew)).look Tryz.underlying159 x.paper hz1
      have hBa : B ≤ wa.heap.size := by omega
      have hka : All wa (wa.alloc (.cells #[.int .i64 x.score] 3)).drew := (by repeat (first | exact Kept.refl _ _ | refine Kept.then_drew ?_ | refine Kept.then_drewN ?_ _ | refine Kept.then_alloc ?_ _))
      have e0' := hka.cell e0 trivial
      have e2' := hka.cell e2 trivial
      obtain ⟨vp, hvp⟩ : ∃ vp, vp = vals x.paper := ⟨_, rfl⟩
      have HVP := Lib.hid hvp
      have haccp := hsca.acc x.paper
      rw [← hvp] at l1 l2 haccp
      clear hvp
      go_region_law (first
        | (refine step_append1 RInt.ok _ (by rfl) _ _ 22 (by rfl) B 3 (.int .i64 0) 1 8 Tryz.underlying22 (by kernel_rfl) rfl (by decide) (fun _ => False) vp (scs (xs.take k) x.paper) (by rfl) (haccp.keepAll RInt.ok (by repeat (first | exact Kept.refl _ _ | refine Kept.then_drew ?_ | refine Kept.then_drewN ?_ _ | refine Kept.then_alloc ?_ _))) ⟨wa.heap.size, 0, none⟩ 1 [.int .i64 x.score] (by rfl) rfl (World.news_of_block (cs := #[.int .i64 x.score]) (t := 3) (fr := (0, 0)) (heap_alloc_new wa _)) (by simp [Value.oneCell']) x.score rfl hfl (by decide) (by simp; omega) ?_; intro p7 c7 w7 hacc7 hgrow hat7; rw [HVP.out] at hgrow hat7; have e07 := grown_cell hgrow e0' (fun e => by have := hrow _ e; dsimp only at this; omega); obtain ⟨w8, hput, hm8, hb8⟩ := hsca.putAt Tryz.underlying159 hmB hgrow (by repeat (first | exact Kept.refl _ _ | refine Kept.then_drew ?_ | refine Kept.then_drewN ?_ _ | refine Kept.then_alloc ?_ _)) (by omega) hz1 (Value.slice p7 ((scs (xs.take k) x.paper).length + 1) c7)))
      all_goals
        have hpush := Lib.hid ((hsca.keep hka).push hmB hacc7 hgrow hat7 hm8 hb8)
        have hk8 : But mb w1 w8 := ((hwa.trans (Kept.all hka)).grown hgrow (fun k hk => Or.inl (by have := ((hsca.acc x.paper).lt k hk).1; omega))).trans hb8
        have hfe := Lib.hid (show (fun q => if q = x.paper then scs (xs.take k) x.paper ++ [x.score] else scs (xs.take k) q) = scs (xs.take (k + 1)) from funext fun q => by
          rw [scs_succ HXT.out q]
          by_cases hq : q = x.paper
          · subst hq; simp
          · have hq' : ¬ x.paper = q := fun e => hq e.symm
            simp [hq, hq'])
        clear hput e07 hgrow hat7 hm8 hb8 hacc7 l1 l2 hsca haccp
        go_wp2_with fail
        go_roundw
        case rel => exact ⟨k + 1, by omega, by go_num, n + 1, _, by omega, by rw [← hfe.out]; exact hpush.out, hk8⟩
        case measure => simp [intOf]; omega
    · have hd : decide ((k : Int) < (len : Int)) = false := by simp; omega
      have hxe : xs.take k = xs := List.take_of_length_le (by have := Hlen.out; omega)
      rw [hxe] at hsc
      obtain ⟨w2, cnt, hrange, hrg, hk2, hsz2⟩ := hsc.map.range Tryz.underlying9 Tryz.underlying159
      have hrow : ∀ p k, (vals p).ownBlock = some k → B ≤ k ∧ k < wo.heap.size := fun p k hk => (hsc.acc p).lt k hk
      have hacc2 : ∀ p, Acc RInt 1 3 (fun _ => False) B w2 (vals p) (scs xs p) := fun p => (hsc.acc p).keepAll RInt.ok hk2
      have hnil := hsc.nil
      have hsep := hsc.sep
      have hlt1 := hsc.map.lt
      have hkw : But mb w1 w2 := hwr.trans (Kept.all hk2)
      obtain ⟨r, hr⟩ : ∃ r, r = wo.heap.size := ⟨_, rfl⟩
      have HR := Lib.hid hr
      have hr1 : w1.heap.size ≤ r := by rw [hr]; exact hwr.size
      have hrow' : ∀ p k, (vals p).ownBlock = some k → B ≤ k ∧ k ≠ r := fun p k hk => by have := hrow p k hk; omega
      rw [← hr] at hrange hrg
      clear hxe hsc hrow hk2 hr hwr hsz2
      go_wp2_with fail
      go_loopw [7] (fun _ wr => ∃ left cnt, RangeS Tryz.prog 9 wr mb r n (fun p => if scs xs p = [] then none else some (vals p)) left cnt ∧ (∀ p, Acc RInt 1 3 (fun _ => False) B wr (vals p) (if left p = true then scs xs p else srtI (scs xs p))) ∧ But mb w1 wr) (fun _ wr => wr.rangeLeft mb r)
      case atStart =>
        refine ⟨_, cnt, hrg, fun p => ?_, hkw⟩
        by_cases hp : scs xs p = []
        · have h1 := hacc2 p
          rw [hp] at h1
          simp only [hp, if_true, Option.isSome_none, Bool.false_eq_true, if_false, srtI_nil.2 rfl]
          exact h1
        · simp only [hp, if_false, Option.isSome_some, if_true]
          exact hacc2 p
      case round =>
        clear hrange hrg hacc2 hkw
        obtain ⟨left, cn, hrg, hacc, hwr⟩ := hrel
        obtain ⟨wq, rfl⟩ : ∃ wq : World, wq = wr := ⟨_, rfl⟩
        have hne := hrg.ne
        rcases hrg.next Tryz.underlying9 0 with ⟨hl0, hrun⟩ | ⟨p, v, w3, cn', hlp, hms, hrun, hrg3, hcl, hb3, hsz3, hen⟩
        · have hfin := Lib.hid (show SC wq w.heap.size mb n vals (fun p => srtI (scs xs p)) from
            ⟨hrg.map.congr (fun p => by simp only [srtI_nil]), fun p => by
              have h1 := hacc p
              simp only [hl0 p, Bool.false_eq_true, if_false] at h1
              exact h1.base (by omega), fun p hp => hnil p (srtI_nil.1 hp), hsep⟩)
          have hall := Lib.hid (show All w wq from hk0.trans2 hwr (fun i hi _ => by omega))
          clear hacc hnil hsep hrow' hrg
          go_wp2_with fail
          go_ret
          exact ⟨mb, n, vals, rfl, hfin.out, hall.out⟩
        · have hfp : scs xs p ≠ [] := fun e => by rw [if_pos e] at hms; cases hms
          have hv : v = vals p := by rw [if_neg hfp] at hms; injection hms with hms; exact hms.symm
          subst hv
          have hacc3 : ∀ q, Acc RInt 1 3 (fun _ => False) B w3 (vals q) (if left q = true then scs xs q else srtI (scs xs q)) := fun q => (hacc q).keep RInt.ok hb3 (fun _ h => h.elim) (fun k hk => (hrow' q k hk).2)
          have haccp := hacc3 p
          simp only [hlp, if_true] at haccp
          have hlen : (scs xs p).length ≤ 1000000 := by have h1 := scs_len xs p; have := Hlen.out; omega
          have hw3 : But mb w1 w3 := hwr.trans2 hb3 (fun i hi hf => by omega)
          have HC := Lib.hid (And.intro hcl hrg.left_eq)
          clear hacc hms hwr hb3 hrg hcl
          go_wp2_with fail
          refine (sortI_any (vals p) (scs xs p) _ haccp hlen).mono ?_
          rintro e w4 ⟨rfl, hacc4, hg4⟩
          have hk34 : Kept (fun k => (vals p).ownBlock ≠ some k) w3 w4 := ⟨hg4.os, hg4.tape, hg4.output, hg4.size, fun k hk hf => hg4.block k hk (fun e => hf e.symm)⟩
          have hrg4 := hrg3.keep hk34 (fun e => by have := (hrow' p mb e).1; omega) (fun e => (hrow' p r e).2 rfl)
          have hw4 : But mb w1 w4 := hw3.trans2 hk34 (fun i hi hf e => by have := (hrow' p i e).1; omega)
          have hacc5 : ∀ q, Acc RInt 1 3 (fun _ => False) B w4 (vals q) (if (left q && !decide (q = p)) = true then scs xs q else srtI (scs xs q)) := fun q => by
            by_cases hq : q = p
            · subst hq
              simpa using hacc4
            · have h1 := (hacc3 q).keep RInt.ok hk34 (fun _ h => h.elim) (fun k hk e => hsep q p k hq hk e)
              simpa [hq] using h1
          clear hk34 hg4 hacc4 hacc3 haccp hrg3 hen hrun
          go_wp2_with fail
          go_roundw
          case rel => exact ⟨_, cn', hrg4, hacc5, hw4⟩
          case measure => rw [hrg4.left_eq, HC.out.2]; exact HC.out.1
end Go.Proofs.YtllkemadaemjeaaGreatDoor

/- Mean and MeanOf. -/
namespace Go.Proofs.YtllkemadaemjeaaGreatDoor
open Go.RowKit

noncomputable def meanE (xs : List Mark3) (p : ByteArray) : Int := if marksF xs ≠ 0 then marksF xs else if isKeyB p = false then 5 else if scs xs p = [] then 8 else 0
def meanN (xs : List Mark3) (p : ByteArray) : Int := lowNum (sumI (srtI (scs xs p))) (srtI (scs xs p)).length
def meanD (xs : List Mark3) (p : ByteArray) : Int := lowDen (sumI (srtI (scs xs p))) (srtI (scs xs p)).length
def MeanPost (xs : List Mark3) (p : ByteArray) (w : World) (e : Ending) (w' : World) : Prop :=
  (meanE xs p ≠ 0 → e = .returned (.tuple #[.agg #[.int .i64 0, .int .i64 0], .int .i64 (meanE xs p)])) ∧ (meanE xs p = 0 → e = .returned (.tuple #[.agg #[.int .i64 (meanN xs p), .int .i64 (meanD xs p)], .int .i64 0])) ∧ All w w'
theorem srtI_bound {xs : List Mark3} {p : ByteArray} (h : ∀ x ∈ xs, 0 ≤ x.score ∧ x.score ≤ 10) : ∀ z ∈ srtI (scs xs p), 0 ≤ z ∧ z ≤ 10 := fun z hz => by
  obtain ⟨m, hm, rfl⟩ := scs_mem (srtI_mem.1 hz)
  exact h m hm

set_option maxRecDepth 100000 in
set_option maxHeartbeats 3200000 in
theorem mean_any (a : Option Addr) (len cap : Nat) (xs : List Mark3) (p : ByteArray) (w : World) (hs : Sl RMark 3 (fun _ => True) w a len xs) (hl : len ≤ 1000000) (hp : p.size ≤ 1000000) :
    Calls Tryz.prog 62 #[.slice a len cap, .string p] w (MeanPost xs p w) := by
  have Hlen := Lib.hid hs.len
  have hk1 : All w (w.alloc (.cells #[.int .i64 0, .int .i64 0] 113)) := Kept.alloc _ _ _
  have hrb := heap_at w (.cells #[.int .i64 0, .int .i64 0] 113) _ rfl
  replace hs := hs.keep RMark.ok hk1
  by_cases h0 : marksF xs = 0
  · cases hk : isKeyB p
    · have HE := Lib.hid (show meanE xs p = 5 by rw [meanE, if_neg (by simp [h0]), if_pos hk])
      go_enter Tryz.func62, Tryz.ntmps62
      go_wp2_with fail
      generalize w.alloc (.cells #[.int .i64 0, .int .i64 0] 113) = w1 at *
      refine (checkMarks_any a len cap xs _ hs hl).mono ?_
      rintro e w2 ⟨rfl, hw2⟩
      rw [h0]
      have hk2 := hk1.trans hw2
      have hrb2 := hw2.heap hrb trivial
      have c0 := cell_at (i := 0) hrb2 rfl
      have c1 := cell_at (i := 1) hrb2 rfl
      have z0 := frozen_at (i := 0) hrb2
      have z1 := frozen_at (i := 1) hrb2
      have hfin := box2' hrb2 (.int .i64 0) (.int .i64 0)
      have r0 := cell_at (i := 0) hfin rfl
      have r1 := cell_at (i := 1) hfin rfl
      clear hrb hrb2 hfin hw2 hk1
      go_wp2_with fail
      refine (isKey_any p _ (by omega)).mono ?_
      rintro e w' ⟨rfl, rfl⟩
      rw [hk]
      go_wp2_with fail
      refine bodyPost_ret (v := .tuple #[.agg #[.int .i64 0, .int .i64 0], .int .i64 5]) ?_ rfl ⟨fun _ => by rw [HE.out], (fun h => by rw [HE.out] at h; cases h), ((hk2.then_setNew _ _ (by simp)).then_setNew _ _ (by simp))⟩
      simp [results, Tryz.results62, go_sem, r0, r1]
    · obtain ⟨hx1, hx2⟩ := marksF_scores h0
      have hl3 : len ≤ 3000 := by have := Hlen.out; omega
      have HB := Lib.hid (srtI_bound (p := p) hx2)
      have hnl : (srtI (scs xs p)).length ≤ 3000 := by have := scs_len xs p; rw [srtI_len]; omega
      clear hx1 hx2
      by_cases hn : scs xs p = []
      · have HE := Lib.hid (show meanE xs p = 8 by rw [meanE, if_neg (by simp [h0]), if_neg (by simp [hk]), if_pos hn])
        have hsn : (srtI (scs xs p)).length = 0 := by rw [srtI_len, hn]; rfl
        go_enter Tryz.func62, Tryz.ntmps62
        go_wp2_with fail
        generalize w.alloc (.cells #[.int .i64 0, .int .i64 0] 113) = w1 at *
        refine (checkMarks_any a len cap xs _ hs hl).mono ?_
        rintro e w2 ⟨rfl, hw2⟩
        rw [h0]
        go_wp2_with fail
        refine (isKey_any p _ (by omega)).mono ?_
        rintro e w' ⟨rfl, rfl⟩
        rw [hk]
        go_wp2_with fail
        refine (scoresOf_any a len cap xs _ (hs.keep RMark.ok hw2) hl3).mono ?_
        rintro e w3 ⟨mb, n, vals, rfl, hsc, hw3⟩
        have l1 := hsc.look Tryz.underlying159 p hp
        have hv := hsc.nil p (srtI_nil.2 hn)
        rw [hv] at l1
        have hk3 := (hk1.trans hw2).trans hw3
        have hrb3 := (hw2.trans hw3).heap hrb trivial
        have c0 := cell_at (i := 0) hrb3 rfl
        have c1 := cell_at (i := 1) hrb3 rfl
        have z0 := frozen_at (i := 0) hrb3
        have z1 := frozen_at (i := 1) hrb3
        have hfin := box2' hrb3 (.int .i64 0) (.int .i64 0)
        have r0 := cell_at (i := 0) hfin rfl
        have r1 := cell_at (i := 1) hfin rfl
        clear hrb hrb3 hfin hw2 hw3 hk1 hsc hv hn hsn
        go_wp2_with fail
        refine bodyPost_ret (v := .tuple #[.agg #[.int .i64 0, .int .i64 0], .int .i64 8]) ?_ rfl ⟨fun _ => by rw [HE.out], (fun h => by rw [HE.out] at h; cases h), ((hk3.then_setNew _ _ (by simp)).then_setNew _ _ (by simp))⟩
        simp [results, Tryz.results62, go_sem, r0, r1]
      · have HE := Lib.hid (show meanE xs p = 0 by rw [meanE, if_neg (by simp [h0]), if_neg (by simp [hk]), if_neg hn])
        have hsn : 0 < (srtI (scs xs p)).length := by
          rw [srtI_len]
          exact List.length_pos_iff.2 hn
        have hsb := sumI_bound HB.out
        obtain ⟨hs1, hs2⟩ := hsb
        have hs3 : sumI (srtI (scs xs p)) ≤ 30000 := by omega
        have HN := Lib.hid (show meanN xs p = lowNum (sumI (srtI (scs xs p))) (srtI (scs xs p)).length from rfl)
        have HD := Lib.hid (show meanD xs p = lowDen (sumI (srtI (scs xs p))) (srtI (scs xs p)).length from rfl)
        go_enter Tryz.func62, Tryz.ntmps62
        go_wp2_with fail
        generalize w.alloc (.cells #[.int .i64 0, .int .i64 0] 113) = w1 at *
        refine (checkMarks_any a len cap xs _ hs hl).mono ?_
        rintro e w2 ⟨rfl, hw2⟩
        rw [h0]
        go_wp2_with fail
        refine (isKey_any p _ (by omega)).mono ?_
        rintro e w' ⟨rfl, rfl⟩
        rw [hk]
        go_wp2_with fail
        refine (scoresOf_any a len cap xs _ (hs.keep RMark.ok hw2) hl3).mono ?_
        rintro e w3 ⟨mb, n, vals, rfl, hsc, hw3⟩
        have l1 := hsc.look Tryz.underlying159 p hp
        obtain ⟨ap, cp, hv, hslp⟩ := (hsc.acc p).sl RInt.ok (by decide) (G := fun _ => True) (fun _ h => h.elim) (fun _ _ => trivial)
        rw [hv] at l1
        generalize srtI (scs xs p) = L at *
        obtain ⟨m, hm⟩ : ∃ m, m = L.length := ⟨_, rfl⟩
        rw [← hm] at l1 hslp hsn hnl HN HD
        have hm0 : ((m : Int) == 0) = false := by simp; omega
        have hk3 := (hk1.trans hw2).trans hw3
        clear hsc hv hm hs2
        go_wp2_with fail
        refine (sumOf_any ap m cp L _ hslp (by omega) HB.out).mono ?_
        rintro e w' ⟨rfl, rfl⟩
        go_wp2_with fail
        refine (lowest_any (sumI L) m _ hs1 (by omega) (by omega) (by omega)).mono ?_
        rintro e w4 ⟨rfl, hw4⟩
        have hk4 := hk3.trans hw4
        have hrb3 := ((hw2.trans hw3).trans hw4).heap hrb trivial
        rw [← HN.out, ← HD.out]
        have c0 := cell_at (i := 0) hrb3 rfl
        have c1 := cell_at (i := 1) hrb3 rfl
        have z0 := frozen_at (i := 0) hrb3
        have z1 := frozen_at (i := 1) hrb3
        have hfin := box2' hrb3 (.int .i64 (meanN xs p)) (.int .i64 (meanD xs p))
        have r0 := cell_at (i := 0) hfin rfl
        have r1 := cell_at (i := 1) hfin rfl
        clear hrb hrb3 hfin hw2 hw3 hk1 hslp hw4 hk3 l1
        go_wp2_with fail
        refine bodyPost_ret (v := .tuple #[.agg #[.int .i64 (meanN xs p), .int .i64 (meanD xs p)], .int .i64 0]) ?_ rfl ⟨(fun h => absurd HE.out h), fun _ => rfl, ((hk4.then_setNew _ _ (by simp)).then_setNew _ _ (by simp))⟩
        simp [results, Tryz.results62, go_sem, r0, r1]
  · obtain ⟨er, her⟩ : ∃ er, er = marksF xs := ⟨_, rfl⟩
    have hne : (er != 0) = true := by rw [her]; simpa using h0
    have HE := Lib.hid (show meanE xs p = er by rw [meanE, if_pos h0, her])
    have HNE := Lib.hid (show er ≠ 0 by rw [her]; exact h0)
    go_enter Tryz.func62, Tryz.ntmps62
    go_wp2_with fail
    generalize w.alloc (.cells #[.int .i64 0, .int .i64 0] 113) = w1 at *
    refine (checkMarks_any a len cap xs _ hs hl).mono ?_
    rintro e w2 ⟨rfl, hw2⟩
    rw [← her]
    have hk2 := hk1.trans hw2
    have hrb2 := hw2.heap hrb trivial
    have c0 := cell_at (i := 0) hrb2 rfl
    have c1 := cell_at (i := 1) hrb2 rfl
    have z0 := frozen_at (i := 0) hrb2
    have z1 := frozen_at (i := 1) hrb2
    have hfin := box2' hrb2 (.int .i64 0) (.int .i64 0)
    have r0 := cell_at (i := 0) hfin rfl
    have r1 := cell_at (i := 1) hfin rfl
    clear hrb hrb2 hfin hw2 hk1 her h0
    go_wp2_with fail
    refine bodyPost_ret (v := .tuple #[.agg #[.int .i64 0, .int .i64 0], .int .i64 er]) ?_ rfl ⟨fun _ => by rw [HE.out], (fun h => absurd (HE.out.symm.trans h) HNE.out), ((hk2.then_setNew _ _ (by simp)).then_setNew _ _ (by simp))⟩
    simp [results, Tryz.results62, go_sem, r0, r1]
end Go.Proofs.YtllkemadaemjeaaGreatDoor

/- keyFault; talked. -/
namespace Go.Proofs.YtllkemadaemjeaaGreatDoor
open Go.RowKit

theorem keyFault_any (p : ByteArray) (w : World) (hp : p.size ≤ 1000000) :
    Calls Tryz.prog 44 #[.string p] w fun e w' => e = .returned (.int .i64 (if isKeyB p = true then 0 else 5)) ∧ All w w' := by
  cases hk : isKeyB p
  · go_enter Tryz.func44, Tryz.ntmps44
    go_wp2_with fail
    refine (key_any p _ hp).mono ?_
    rintro e w2 ⟨rfl, hw2⟩
    rw [hk]
    go_wp2_with fail
    refine (whenV_any _ _ _).mono ?_
    rintro e w' ⟨rfl, rfl⟩
    go_wp2_with fail
    go_ret
    exact ⟨by simp, hw2⟩
  · go_enter Tryz.func44, Tryz.ntmps44
    go_wp2_with fail
    refine (key_any p _ hp).mono ?_
    rintro e w2 ⟨rfl, hw2⟩
    rw [hk]
    go_wp2_with fail
    refine (whenV_any _ _ _).mono ?_
    rintro e w' ⟨rfl, rfl⟩
    go_wp2_with fail
    go_ret
    exact ⟨by simp, hw2⟩

def markT : Mark3 := ⟨⟨#[112]⟩, ⟨#[97]⟩, 3⟩
theorem isKey_p : isKeyB ⟨#[112]⟩ = true := isKeyB_true ⟨fun i h _ => by
  have h0 : i = 0 := by have : (⟨#[112]⟩ : ByteArray).size = 1 := rfl; omega
  subst h0
  exact Or.inl ⟨show (97 : Int) ≤ 112 by decide, show (112 : Int) ≤ 122 by decide⟩, by decide, by decide⟩
theorem isKey_a : isKeyB ⟨#[97]⟩ = true := isKeyB_true ⟨fun i h _ => by
  have h0 : i = 0 := by have : (⟨#[97]⟩ : ByteArray).size = 1 := rfl; omega
  subst h0
  exact Or.inl ⟨show (97 : Int) ≤ 97 by decide, show (97 : Int) ≤ 122 by decide⟩, by decide, by decide⟩
theorem marksF_T : marksF [markT] = 0 := by
  rw [marksF_some (by simp), marksG_cons, markF_ok (x := markT) isKey_p isKey_a rfl (by decide), if_neg (by simp)]
  rfl
theorem scs_T : scs [markT] ⟨#[112]⟩ = [3] := by simp [scs, markT]
theorem meanE_T : meanE [markT] ⟨#[112]⟩ = 0 := by
  rw [meanE, marksF_T, if_neg (by simp), isKey_p, if_neg (by simp), scs_T, if_neg (by simp)]
theorem srt_T : srtI [3] = [3] := by simp [srtI]
theorem meanN_T : meanN [markT] ⟨#[112]⟩ = 3 := by
  rw [meanN, scs_T, srt_T]; rfl
theorem meanD_T : meanD [markT] ⟨#[112]⟩ = 1 := by
  rw [meanD, scs_T, srt_T]; rfl
set_option maxHeartbeats 800000 in
theorem talked_any (w : World) : Calls Tryz.prog 15 #[] w fun e w' => e = .returned (.bool true) ∧ All w w' := by
  have hk : All w (w.alloc (.cells #[.string ⟨#[112]⟩, .string ⟨#[97]⟩, .int .i64 3] 117)) := Kept.alloc _ _ _
  have hb := heap_at w (.cells #[.string ⟨#[112]⟩, .string ⟨#[97]⟩, .int .i64 3] 117) _ rfl
  have hsl : Sl RMark 3 (fun _ => True) (w.alloc (.cells #[.string ⟨#[112]⟩, .string ⟨#[97]⟩, .int .i64 3] 117)) (some ⟨w.heap.size, 0, none⟩) 1 [markT] := by
    refine ⟨rfl, fun _ => ⟨w.heap.size, 0, rfl, trivial, fun i hi => ⟨[.string ⟨#[112]⟩, .string ⟨#[97]⟩, .int .i64 3], rfl, fun j hj => ?_, ?_⟩⟩⟩
    · have h0 : i = 0 := by simpa using hi
      subst h0
      have hj3 : j = 0 ∨ j = 1 ∨ j = 2 := by simp at hj; omega
      rcases hj3 with rfl | rfl | rfl
      · exact cell_at (i := 0) hb rfl
      · exact cell_at (i := 1) hb rfl
      · exact cell_at (i := 2) hb rfl
    · have h0 : i = 0 := by simpa using hi
      subst h0
      exact ⟨rfl, show (1 : Nat) ≤ 1000000 by decide, show (1 : Nat) ≤ 1000000 by decide⟩
  have HM := Lib.hid (mean_any (some ⟨w.heap.size, 0, none⟩) 1 1 [markT] ⟨#[112]⟩ _ hsl (by omega) (by decide))
  clear hsl hb
  go_enter Tryz.func15, Tryz.ntmps15
  go_wp2_with fail
  refine HM.out.mono ?_
  rintro e w2 ⟨-, he, hw2⟩
  have he' := he meanE_T
  rw [meanN_T, meanD_T] at he'
  subst he'
  have hk2 := hk.trans hw2
  clear HM he
  go_wp2_with fail
  go_ret
  exact ⟨rfl, by repeat (first | exact hk2 | refine Kept.then_drew ?_ | refine Kept.then_drewN ?_ _ | refine Kept.then_alloc ?_ _)⟩
end Go.Proofs.YtllkemadaemjeaaGreatDoor
