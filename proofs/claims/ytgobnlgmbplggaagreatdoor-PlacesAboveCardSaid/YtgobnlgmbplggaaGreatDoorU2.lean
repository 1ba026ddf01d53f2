/- namesFault of the reference. -/
import Derived.Test.YtgobnlgmbplggaaGreatDoorU0
import Derived.Test.YtgobnlgmbplggaaGreatDoorS2
namespace Go.Proofs.YtgobnlgmbplggaaGreatDoor
open Go.RowKit

theorem namB_line (s : ByteArray) : lineB s 100 = namB s := by
  unfold lineB namB
  congr 1
  · congr 1
    by_cases h : s.size = 0 <;> simp [h]
  · by_cases h : s.size ≤ 100
    · rw [decide_eq_true h, decide_eq_true (by omega)]
    · rw [decide_eq_false h, decide_eq_false (by omega)]
set_option maxRecDepth 100000 in
set_option maxHeartbeats 12800000 in
theorem namesFaultR_any (a : Option Addr) (len cap : Nat) (l : List Nam) (w : World) (hs : Sl RNam 2 (fun _ => True) w a len l) (hl : len ≤ 100000) (hg : Glob w) :
    Calls Tryz.prog 141 #[.slice a len cap] w fun e w' => e = .returned (.int .i64 (namesF l)) ∧ All w w' := by
  have HLEN := Lib.hid hs.len
  by_cases hz0 : len = 0
  · have HF := Lib.hid (namesF_none (l := l) (by have := HLEN.out; omega))
    subst hz0
    clear hs
    go_enter Tryz.func141, Tryz.ntmps141
    go_wp2_with fail
    go_ret
    exact ⟨ret_int' HF.out.symm, Kept.refl _ _⟩
  have hdz : ((len : Int) == 0) = false := by rw [beq_eq_false_iff_ne]; omega
  by_cases hbig : 10 < len
  · have hd0 : decide ((10 : Int) < (len : Int)) = true := by simp; omega
    have HF := Lib.hid (namesF_large (l := l) (by have := HLEN.out; omega))
    clear hs
    go_enter Tryz.func141, Tryz.ntmps141
    go_wp2_with fail
    go_ret
    exact ⟨ret_int' HF.out.symm, Kept.refl _ _⟩
  have hd0 : decide ((10 : Int) < (len : Int)) = false := by simp; omega
  have HSC := Lib.hid (namesF_scan (l := l) (by have := HLEN.out; omega) (by have := HLEN.out; omega))
  have HS := Lib.hid (fun (wx : World) (k : All w wx) => hs.keep RNam.ok k)
  have HG := Lib.hid (fun (wx : World) (k : All w wx) => hg.keep k)
  have hz1 : ¬ len = 0 := hz0
  clear hs hg hz0
  go_enter Tryz.func141, Tryz.ntmps141
  go_wp2_with fail
  go_loopw [15] (fun i wr => ∃ k : Nat, k ≤ len ∧ i = .int .i64 k ∧ ScanAt namE l k ∧ All w wr) (fun i _ => len - (intOf i).toNat)
  case atStart => exact ⟨0, Nat.zero_le _, rfl, ScanAt.zero _ _, Kept.refl _ _⟩
  case round =>
    obtain ⟨k, hk, rfl, hat, hall⟩ := hrel
    obtain ⟨wo, rfl⟩ : ∃ wo : World, wo = wr := ⟨_, rfl⟩
    by_cases hlt : k < len
    · obtain ⟨b, off, x, ha, -, c0, c1, ⟨hx1, hx2⟩, hx, -⟩ := (HS.out _ hall).atNam hlt
      subst ha
      have HX := Lib.hid hx
      clear hx
      have HIP := Lib.hid (fun (wx : World) (kx : All w wx) => (show Calls Tryz.prog 185 #[.string x.name, .int .i64 100] wx fun e w' => e = .returned (.bool (namB x.name)) ∧ All wx w' from namB_line x.name ▸ named_any x.name 100 wx hx1 (HG.out _ kx)))
      have HSK := Lib.hid (fun (wx : World) (kx : All w wx) => HS.out wx kx)
      have hb9 := heap_at wo (.cells #[.string x.name, .int .i64 x.frm] 99) _ rfl
      obtain ⟨xb, hxb⟩ : ∃ z, z = wo.heap.size := ⟨_, rfl⟩
      have HXB := Lib.hid hxb
      rw [← hxb] at hb9
      have hall' : All w (wo.alloc (.cells #[.string x.name, .int .i64 x.frm] 99)) := hall.then_alloc _
      clear hxb hall
      go_upto_region 8 with fail
      simp only [← HXB.out]
      generalize wo.alloc (.cells #[.string x.name, .int .i64 x.frm] 99) = w9 at *
      have hall := hall'
      have e0 := cell_at (i := 0) hb9 rfl
      have e1 := cell_at (i := 1) hb9 rfl
      clear hb9 c0 c1 hall'
      cases hnb : namB x.name with
      | false =>
        have HF := Lib.hid (show namesF l = 3 from by rw [HSC.out]; exact hat.bad HX.out (namE_name hnb) (by decide))
        clear hat
        go_wp2_with fail
        refine (HIP.out _ (by repeat (first | exact hall | refine Kept.then_drew ?_ | refine Kept.then_drewN ?_ _ | refine Kept.then_alloc ?_ _))).mono ?_
        rintro e w' ⟨rfl, hkw⟩
        rw [hnb]
        have hall := Kept.trans (show All w _ from (by repeat (first | exact hall | refine Kept.then_drew ?_ | refine Kept.then_drewN ?_ _ | refine Kept.then_alloc ?_ _))) hkw
        have e0 := hkw.cell e0 trivial
        have e1 := hkw.cell e1 trivial
        go_wp2_with fail
        go_ret
        exact ⟨ret_int' HF.out.symm, (by repeat (first | exact hall | refine Kept.then_drew ?_ | refine Kept.then_drewN ?_ _ | refine Kept.then_alloc ?_ _))⟩
      | true =>
      rcases k with _ | k
      · by_cases hf0 : x.frm = 0
        · have g0 : (x.frm != 0) = false := by simpa using hf0
          have d4 : decide ((4000 : Int) < x.frm) = false := by simp; omega
          have HN := Lib.hid (hat.next HX.out (namE_ok hnb (by show decide (x.frm ≠ 0) = false; simpa using hf0) (by omega)))
          clear hat hf0
          go_wp2_with fail
          refine (HIP.out _ (by repeat (first | exact hall | refine Kept.then_drew ?_ | refine Kept.then_drewN ?_ _ | refine Kept.then_alloc ?_ _))).mono ?_
          rintro e w' ⟨rfl, hkw⟩
          rw [hnb]
          have hall := Kept.trans (show All w _ from (by repeat (first | exact hall | refine Kept.then_drew ?_ | refine Kept.then_drewN ?_ _ | refine Kept.then_alloc ?_ _))) hkw
          have e0 := hkw.cell e0 trivial
          have e1 := hkw.cell e1 trivial
          go_upto_region 10 with fail
          go_quiet (fail)
          go_wp2_with fail
          go_roundw
          case rel => exact ⟨1, by omega, rfl, HN.out, (by repeat (first | exact hall | refine Kept.then_drew ?_ | refine Kept.then_drewN ?_ _ | refine Kept.then_alloc ?_ _))⟩
          case measure => simp [intOf]; omega
        · have g0 : (x.frm != 0) = true := by simpa using hf0
          have HF := Lib.hid (show namesF l = 7 from by rw [HSC.out]; exact hat.bad HX.out (namE_up hnb (by show decide (x.frm ≠ 0) = true; simpa using hf0)) (by decide))
          clear hat hf0
          go_wp2_with fail
          refine (HIP.out _ (by repeat (first | exact hall | refine Kept.then_drew ?_ | refine Kept.then_drewN ?_ _ | refine Kept.then_alloc ?_ _))).mono ?_
          rintro e w' ⟨rfl, hkw⟩
          rw [hnb]
          have hall := Kept.trans (show All w _ from (by repeat (first | exact hall | refine Kept.then_drew ?_ | refine Kept.then_drewN ?_ _ | refine Kept.then_alloc ?_ _))) hkw
          have e0 := hkw.cell e0 trivial
          have e1 := hkw.cell e1 trivial
          go_upto_region 10 with fail
          go_quiet (fail)
          go_wp2_with fail
          go_ret
          exact ⟨ret_int' HF.out.symm, (by repeat (first | exact hall | refine Kept.then_drew ?_ | refine Kept.then_drewN ?_ _ | refine Kept.then_alloc ?_ _))⟩
      · have f1 : (0 : Int) ≤ (k : Int) := by omega
        have f2 : (k : Int) < (len : Int) := by omega
        have f3 : k < len := by omega
        have f6 : (((k : Int) + 1) == 0) = false := by rw [beq_eq_false_iff_ne]; omega
        have f4 : IntKind.i64.wrap (k : Int) = (k : Int) := IntWalk.i64_in _ (by omega)
        obtain ⟨b', off', y, ha', -, -, d0, ⟨-, -⟩, hy, -⟩ := (HSK.out _ hall).atNam (k := k) f3
        cases ha'
        have HD := Lib.hid d0
        have hpv := Lib.hid (show prevAt l (k + 1) = some y from prevAt_succ hy)
        clear hy d0
        by_cases hup : x.frm ≤ y.frm
        · have g0 : decide (x.frm ≤ y.frm) = true := by simpa using hup
          have he : namE (prevAt l (k + 1)) x = 7 := by rw [hpv.out]; exact namE_up hnb g0
          have HF := Lib.hid (show namesF l = 7 from by rw [HSC.out]; exact hat.bad HX.out he (by decide))
          clear hat hup he
          go_wp2_with fail
          refine (HIP.out _ (by repeat (first | exact hall | refine Kept.then_drew ?_ | refine Kept.then_drewN ?_ _ | refine Kept.then_alloc ?_ _))).mono ?_
          rintro e w' ⟨rfl, hkw⟩
          rw [hnb]
          have hall := Kept.trans (show All w _ from (by repeat (first | exact hall | refine Kept.then_drew ?_ | refine Kept.then_drewN ?_ _ | refine Kept.then_alloc ?_ _))) hkw
          have e0 := hkw.cell e0 trivial
          have e1 := hkw.cell e1 trivial
          have d0 := hkw.cell HD.out trivial
          have f5 := lt_of_cell d0
          go_upto_region 10 with fail
          go_quiet (fail)
          go_wp2_with fail
          go_ret
          exact ⟨ret_int' HF.out.symm, (by repeat (first | exact hall | refine Kept.then_drew ?_ | refine Kept.then_drewN ?_ _ | refine Kept.then_alloc ?_ _))⟩
        · have g0 : decide (x.frm ≤ y.frm) = false := by simpa using hup
          have hup' : namUp (prevAt l (k + 1)) x = false := by rw [hpv.out]; exact g0
          by_cases hl4 : 4000 < x.frm
          · have d4 : decide ((4000 : Int) < x.frm) = true := by simpa using hl4
            have HF := Lib.hid (show namesF l = 1 from by rw [HSC.out]; exact hat.bad HX.out (namE_late hnb hup' hl4) (by decide))
            clear hat hl4
            go_wp2_with fail
            refine (HIP.out _ (by repeat (first | exact hall | refine Kept.then_drew ?_ | refine Kept.then_drewN ?_ _ | refine Kept.then_alloc ?_ _))).mono ?_
            rintro e w' ⟨rfl, hkw⟩
            rw [hnb]
            have hall := Kept.trans (show All w _ from (by repeat (first | exact hall | refine Kept.then_drew ?_ | refine Kept.then_drewN ?_ _ | refine Kept.then_alloc ?_ _))) hkw
            have e0 := hkw.cell e0 trivial
            have e1 := hkw.cell e1 trivial
            have d0 := hkw.cell HD.out trivial
            have f5 := lt_of_cell d0
            go_upto_region 10 with fail
            go_quiet (fail)
            go_wp2_with fail
            go_ret
            exact ⟨ret_int' HF.out.symm, (by repeat (first | exact hall | refine Kept.then_drew ?_ | refine Kept.then_drewN ?_ _ | refine Kept.then_alloc ?_ _))⟩
          · have d4 : decide ((4000 : Int) < x.frm) = false := by simpa using hl4
            have HN := Lib.hid (hat.next HX.out (namE_ok hnb hup' hl4))
            clear hat hl4
            go_wp2_with fail
            refine (HIP.out _ (by repeat (first | exact hall | refine Kept.then_drew ?_ | refine Kept.then_drewN ?_ _ | refine Kept.then_alloc ?_ _))).mono ?_
            rintro e w' ⟨rfl, hkw⟩
            rw [hnb]
            have hall := Kept.trans (show All w _ from (by repeat (first | exact hall | refine Kept.then_drew ?_ | refine Kept.then_drewN ?_ _ | refine Kept.then_alloc ?_ _))) hkw
            have e0 := hkw.cell e0 trivial
            have e1 := hkw.cell e1 trivial
            have d0 := hkw.cell HD.out trivial
            have f5 := lt_of_cell d0
            go_upto_region 10 with fail
            go_quiet (fail)
            go_wp2_with fail
            go_roundw
            case rel => exact ⟨k + 1 + 1, by omega, by go_num, HN.out, (by repeat (first | exact hall | refine Kept.then_drew ?_ | refine Kept.then_drewN ?_ _ | refine Kept.then_alloc ?_ _))⟩
            case measure => simp [intOf]; omega
    · have hd : decide ((k : Int) < (len : Int)) = false := by simp; omega
      have HF := Lib.hid (show namesF l = 0 from by rw [HSC.out]; exact hat.ok (by have := HLEN.out; omega))
      clear hat
      go_wp2_with fail
      go_ret
      exact ⟨ret_int' HF.out.symm, hall⟩
end Go.Proofs.YtgobnlgmbplggaaGreatDoor

/- mail of the reference. -/
namespace Go.Proofs.YtgobnlgmbplggaaGreatDoor
open Go.RowKit

theorem in380 (n : Nat) : (decide (3 ≤ n) && decide (n ≤ 80)) = decide ((3 : Int) ≤ (n : Int) ∧ (n : Int) ≤ 80) := by
  rw [Bool.eq_iff_iff]; simp; omega
set_option maxRecDepth 100000 in
set_option maxHeartbeats 12800000 in
theorem mailR_any (s : ByteArray) (w : World) (hs : s.size ≤ 1000000) :
    Calls Tryz.prog 144 #[.string s] w fun e w' => e = .returned (.bool (mailB s)) ∧ w' = w := by
  have HIX := Lib.hid (fun (wx : World) => Tryz.strings_Index_one s 64 wx)
  have HCT := Lib.hid (fun (wx : World) => Tryz.strings_Count_one s 64 wx)
  go_enter Tryz.func144, Tryz.ntmps144
  go_wp2_with fail
  go_loopw [7] (fun i wr => ∃ k : Nat, k ≤ s.size ∧ i = .int .i64 k ∧ (∀ (j : Nat) (hj : j < s.size), j < k → mailC s[j] = true) ∧ wr = w) (fun i _ => s.size - (intOf i).toNat)
  case atStart => exact ⟨0, Nat.zero_le _, rfl, fun _ _ h => absurd h (by omega), rfl⟩
  case round =>
    obtain ⟨k, hk, rfl, hok, rfl⟩ := hrel
    by_cases hlt : k < s.size
    · have HMC := Lib.hid (show mailC s[k] = (decide (33 ≤ s[k].toNat) && decide (s[k].toNat ≤ 126) && !(decide (65 ≤ s[k].toNat) && decide (s[k].toNat ≤ 90))) from rfl)
      have HNO := Lib.hid (fun (h : mailC s[k] = false) => mail_not hlt h)
      by_cases h1 : s[k].toNat < 33
      · have e1 : decide (((s[k].toNat : Nat) : Int) < 33) = true := by simp; omega
        have HF := Lib.hid (HNO.out (by rw [HMC.out, decide_eq_false (show ¬ 33 ≤ s[k].toNat by omega)]; rfl))
        clear hok HNO HMC h1 HIX HCT
        go_wp2_with fail
        go_ret
        exact ⟨ret_bool HF.out.symm, rfl⟩
      have e1 : decide (((s[k].toNat : Nat) : Int) < 33) = false := by simp; omega
      by_cases h2 : 126 < s[k].toNat
      · have e2 : decide ((126 : Int) < ((s[k].toNat : Nat) : Int)) = true := by simp; omega
        have HF := Lib.hid (HNO.out (by rw [HMC.out, decide_eq_false (show ¬ s[k].toNat ≤ 126 by omega), Bool.and_false]; rfl))
        clear hok HNO HMC h1 h2 HIX HCT
        go_wp2_with fail
        go_ret
        exact ⟨ret_bool HF.out.symm, rfl⟩
      have e2 : decide ((126 : Int) < ((s[k].toNat : Nat) : Int)) = false := by simp; omega
      by_cases h3 : 65 ≤ s[k].toNat
      · have e3 : decide ((65 : Int) ≤ ((s[k].toNat : Nat) : Int)) = true := by simp; omega
        by_cases h4 : s[k].toNat ≤ 90
        · have e4 : decide (((s[k].toNat : Nat) : Int) ≤ 90) = true := by simp; omega
          have HF := Lib.hid (HNO.out (by rw [HMC.out, decide_eq_true h3, decide_eq_true h4]; simp))
          clear hok HNO HMC h1 h2 h3 h4 HIX HCT
          go_wp2_with fail
          go_ret
          exact ⟨ret_bool HF.out.symm, rfl⟩
        · have e4 : decide (((s[k].toNat : Nat) : Int) ≤ 90) = false := by simp; omega
          have HN := Lib.hid (show ∀ (j : Nat) (hj : j < s.size), j < k + 1 → mailC s[j] = true from fun j hj hjk => by
            by_cases e : j = k
            · subst e; rw [HMC.out, decide_eq_true (show 33 ≤ s[j].toNat by omega), decide_eq_true (show s[j].toNat ≤ 126 by omega), decide_eq_false h4]; simp
            · exact hok j hj (by omega))
          clear hok HNO HMC h1 h2 h3 h4 HIX HCT
          go_wp2_with fail
          go_roundw
          case rel => exact ⟨k + 1, by omega, by go_num, HN.out, by first | rfl | trivial⟩
          case measure => simp [intOf]; omega
      · have e3 : decide ((65 : Int) ≤ ((s[k].toNat : Nat) : Int)) = false := by simp; omega
        have HN := Lib.hid (show ∀ (j : Nat) (hj : j < s.size), j < k + 1 → mailC s[j] = true from fun j hj hjk => by
          by_cases e : j = k
          · subst e; rw [HMC.out, decide_eq_true (show 33 ≤ s[j].toNat by omega), decide_eq_true (show s[j].toNat ≤ 126 by omega), decide_eq_false h3]; simp
          · exact hok j hj (by omega))
        clear hok HNO HMC h1 h2 h3 HIX HCT
        go_wp2_with fail
        go_roundw
        case rel => exact ⟨k + 1, by omega, by go_num, HN.out, by first | rfl | trivial⟩
        case measure => simp [intOf]; omega
    · have hd : decide ((k : Int) < (s.size : Int)) = false := by simp; omega
      have hB := mailB_of (mail_all fun j hj => hok j hj (by omega))
      obtain ⟨ix, hix⟩ : ∃ z, z = Lib.indexByte s.data.toList 64 := ⟨_, rfl⟩
      obtain ⟨ct, hct⟩ : ∃ z, z = Lib.countByte s.data.toList 64 := ⟨_, rfl⟩
      rw [← hix, ← hct] at hB
      rw [← hix] at HIX
      rw [← hct] at HCT
      obtain ⟨bi, hbi⟩ : ∃ z, z = decide ((3 : Int) ≤ (s.size : Int) ∧ (s.size : Int) ≤ 80) := ⟨_, rfl⟩
      have HIN := Lib.hid (fun (wx : World) => (in_any (s.size : Int) 3 80 wx))
      rw [← hbi] at HIN
      have hB0 : mailB s = (bi && (decide (0 < ix) && decide (ix < (s.size : Int) - 1)) && decide (ct = 1)) := by
        rw [hB, hbi]
        rw [in380]
      clear hok hix hct hbi hB
      cases bi with
      | false =>
        have HF := Lib.hid (show mailB s = false from by rw [hB0]; rfl)
        clear hB0
        go_wp2_with fail
        refine (HIX.out _).mono ?_
        rintro e w2 ⟨rfl, hh⟩
        subst hh
        go_wp2_with fail
        refine (HIN.out _).mono ?_
        rintro e w2 ⟨rfl, hh⟩
        subst hh
        go_wp2_with fail
        go_ret
        exact ⟨ret_bool HF.out.symm, rfl⟩
      | true =>
      by_cases h0 : ct = 1
      case neg =>
        have e5 : ((ct : Int) == 1) = false := by rw [beq_eq_false_iff_ne]; omega
        have HF := Lib.hid (show mailB s = false from by rw [hB0, decide_eq_false h0, Bool.and_false])
        clear hB0 h0
        go_wp2_with fail
        refine (HIX.out _).mono ?_
        rintro e w2 ⟨rfl, hh⟩
        subst hh
        go_wp2_with fail
        refine (HIN.out _).mono ?_
        rintro e w2 ⟨rfl, hh⟩
        subst hh
        go_wp2_with fail
        refine (HCT.out _).mono ?_
        rintro e w2 ⟨rfl, hh⟩
        subst hh
        go_wp2_with fail
        go_ret
        exact ⟨ret_bool HF.out.symm, rfl⟩
      have e5 : ((ct : Int) == 1) = true := by rw [beq_iff_eq]; omega
      by_cases h3 : 0 < ix
      case neg =>
        have e3 : decide ((0 : Int) < ix) = false := by simpa using h3
        have HF := Lib.hid (show mailB s = false from by rw [hB0, decide_eq_false h3, Bool.false_and, Bool.and_false]; rfl)
        clear hB0 h3 h0
        go_wp2_with fail
        refine (HIX.out _).mono ?_
        rintro e w2 ⟨rfl, hh⟩
        subst hh
        go_wp2_with fail
        refine (HIN.out _).mono ?_
        rintro e w2 ⟨rfl, hh⟩
        subst hh
        go_wp2_with fail
        refine (HCT.out _).mono ?_
        rintro e w2 ⟨rfl, hh⟩
        subst hh
        go_wp2_with fail
        go_ret
        exact ⟨ret_bool HF.out.symm, rfl⟩
      have e3 : decide ((0 : Int) < ix) = true := by simpa using h3
      by_cases h4 : ix < (s.size : Int) - 1
      case neg =>
        have e4 : decide (ix < (s.size : Int) - 1) = false := by simpa using h4
        have HF := Lib.hid (show mailB s = false from by rw [hB0, decide_eq_false h4, Bool.and_false, Bool.and_false]; rfl)
        clear hB0 h0
        go_wp2_with fail
        refine (HIX.out _).mono ?_
        rintro e w2 ⟨rfl, hh⟩
        subst hh
        go_wp2_with fail
        refine (HIN.out _).mono ?_
        rintro e w2 ⟨rfl, hh⟩
        subst hh
        go_wp2_with fail
        refine (HCT.out _).mono ?_
        rintro e w2 ⟨rfl, hh⟩
        subst hh
        go_wp2_with fail
        go_ret
        exact ⟨ret_bool HF.out.symm, rfl⟩
      have e4 : decide (ix < (s.size : Int) - 1) = true := by simpa using h4
      have HF := Lib.hid (show mailB s = true from by rw [hB0, decide_eq_true h0, decide_eq_true h3, decide_eq_true h4]; rfl)
      clear hB0 h0
      go_wp2_with fail
      refine (HIX.out _).mono ?_
      rintro e w2 ⟨rfl, hh⟩
      subst hh
      go_wp2_with fail
      refine (HIN.out _).mono ?_
      rintro e w2 ⟨rfl, hh⟩
      subst hh
      go_wp2_with fail
      refine (HCT.out _).mono ?_
      rintro e w2 ⟨rfl, hh⟩
      subst hh
      go_wp2_with fail
      go_ret
      exact ⟨ret_bool HF.out.symm, rfl⟩
end Go.Proofs.YtgobnlgmbplggaaGreatDoor
