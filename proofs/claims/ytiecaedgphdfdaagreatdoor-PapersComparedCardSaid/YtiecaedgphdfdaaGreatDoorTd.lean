/- value answers valN, valD; crit answers critN, critD. -/
import Derived.Test.YtiecaedgphdfdaaGreatDoorTa
import Derived.Test.YtiecaedgphdfdaaGreatDoorRd
import Derived.Test.YtiecaedgphdfdaaGreatDoorRf
namespace Go.Proofs.YtiecaedgphdfdaaGreatDoor
open Go.RowKit

theorem whole_any (k : Int) (w : World) : Calls Tryz.prog 146 #[.int .i64 k] w fun e w' => e = .returned (.agg #[.int .i64 k, .int .i64 1]) ∧ All w w' := by
  have hk1 : All w (w.alloc (.cells #[.int .i64 0, .int .i64 0] 142)) := Kept.alloc _ _ _
  have hrb := heap_at w (.cells #[.int .i64 0, .int .i64 0] 142) _ rfl
  have c0 := cell_at (i := 0) hrb rfl
  have c1 := cell_at (i := 1) hrb rfl
  have z0 := frozen_at (i := 0) hrb
  have z1 := frozen_at (i := 1) hrb
  have hfin := box2' hrb (.int .i64 k) (.int .i64 1)
  have r0 := cell_at (i := 0) hfin rfl
  have r1 := cell_at (i := 1) hfin rfl
  clear hrb hfin
  go_enter Tryz.func146, Tryz.ntmps146
  go_wp2_with fail
  refine bodyPost_ret (v := .agg #[.int .i64 k, .int .i64 1]) ?_ rfl ⟨rfl, ?_⟩
  · simp [results, Tryz.results146, go_sem]
  · exact Kept.alloc _ _ _

set_option maxRecDepth 100000 in
set_option maxHeartbeats 3200000 in
theorem value_any (c : Int) (a : Option Addr) (len cap : Nat) (ss : List Int) (w : World) (hs : Sl RInt 1 (fun _ => True) w a len ss) (hl : len ≤ 3000) (hz : ∀ z ∈ ss, 0 ≤ z ∧ z ≤ 10) :
    Calls Tryz.prog 124 #[.int .i64 c, .slice a len cap] w fun e w' => e = .returned (.agg #[.int .i64 (valN c ss), .int .i64 (valD c ss)]) ∧ All w w' := by
  have Hlen := Lib.hid hs.len
  have hk1 : All w (w.alloc (.cells #[.int .i64 0, .int .i64 0] 142)) := Kept.alloc _ _ _
  have hrb := heap_at w (.cells #[.int .i64 0, .int .i64 0] 142) _ rfl
  replace hs := hs.keep RInt.ok hk1
  by_cases h4 : c = 4
  · subst h4
    have HV := Lib.hid (show valN 4 ss = (len : Int) ∧ valD 4 ss = 1 from by rw [(val_crit (c := 4) (ss := ss) (Or.inl (by decide))).1, (val_crit (c := 4) (ss := ss) (Or.inl (by decide))).2, (crit_many ss).1, (crit_many ss).2, Hlen.out]; exact ⟨rfl, rfl⟩)
    go_enter Tryz.func124, Tryz.ntmps124
    go_wp2_with fail
    generalize w.alloc (.cells #[.int .i64 0, .int .i64 0] 142) = w1 at *
    refine (whole_any len _).mono ?_
    rintro e w2 ⟨rfl, hw2⟩
    have hrb2 := hw2.heap hrb trivial
    have hk2 := hk1.trans hw2
    have c0 := cell_at (i := 0) hrb2 rfl
    have c1 := cell_at (i := 1) hrb2 rfl
    have z0 := frozen_at (i := 0) hrb2
    have z1 := frozen_at (i := 1) hrb2
    have hfin := box2' hrb2 (.int .i64 len) (.int .i64 1)
    have r0 := cell_at (i := 0) hfin rfl
    have r1 := cell_at (i := 1) hfin rfl
    clear hrb hrb2 hfin hk1 hs
    go_wp2_with fail
    refine bodyPost_ret (v := .agg #[.int .i64 len, .int .i64 1]) ?_ rfl ⟨ret_frac HV.out.1.symm HV.out.2.symm, ((hk2.then_setNew _ _ (by simp)).then_setNew _ _ (by simp))⟩
    simp [results, Tryz.results124, go_sem, r0, r1]
  · have e4 : (c == 4) = false := by simpa using h4
    by_cases h0 : len = 0
    · have hn : ss = [] := List.eq_nil_of_length_eq_zero (by rw [Hlen.out]; exact h0)
      have HV := Lib.hid (show valN c ss = -1 ∧ valD c ss = 1 from by rw [(val_crit (Or.inr hn)).1, (val_crit (Or.inr hn)).2, hn]; exact crit_none h4)
      have e0 : ((len : Int) == 0) = true := by simp; omega
      clear hn h4
      go_enter Tryz.func124, Tryz.ntmps124
      go_wp2_with fail
      generalize w.alloc (.cells #[.int .i64 0, .int .i64 0] 142) = w1 at *
      refine (whole_any (-1) _).mono ?_
      rintro e w2 ⟨rfl, hw2⟩
      have hrb2 := hw2.heap hrb trivial
      have hk2 := hk1.trans hw2
      have c0 := cell_at (i := 0) hrb2 rfl
      have c1 := cell_at (i := 1) hrb2 rfl
      have z0 := frozen_at (i := 0) hrb2
      have z1 := frozen_at (i := 1) hrb2
      have hfin := box2' hrb2 (.int .i64 (-1)) (.int .i64 1)
      have r0 := cell_at (i := 0) hfin rfl
      have r1 := cell_at (i := 1) hfin rfl
      clear hrb hrb2 hfin hk1 hs
      go_wp2_with fail
      refine bodyPost_ret (v := .agg #[.int .i64 (-1), .int .i64 1]) ?_ rfl ⟨ret_frac HV.out.1.symm HV.out.2.symm, ((hk2.then_setNew _ _ (by simp)).then_setNew _ _ (by simp))⟩
      simp [results, Tryz.results124, go_sem, r0, r1]
    · have hn : ss ≠ [] := fun e => h0 (by rw [← Hlen.out, e]; rfl)
      have e0 : ((len : Int) == 0) = false := by simp; omega
      have HN := Lib.hid hn
      have H4 := Lib.hid h4
      clear hn h4
      obtain ⟨b, off, ha, -, hcs⟩ := hs.ints (by omega)
      have HC := Lib.hid hcs
      clear hcs
      by_cases h1 : c = 1
      · subst h1
        have hsb := sumI_bound hz
        rw [Hlen.out] at hsb
        obtain ⟨hs1, hs2⟩ := hsb
        have hs3 : sumI ss ≤ 30000 := by omega
        have HV := Lib.hid (show valN 1 ss = lowNum (sumI ss) len ∧ valD 1 ss = lowDen (sumI ss) len from by rw [(val_mean HN.out).1, (val_mean HN.out).2, Hlen.out]; exact ⟨rfl, rfl⟩)
        have HZ := Lib.hid hz
        clear hz hs2 ha
        go_enter Tryz.func124, Tryz.ntmps124
        go_wp2_with fail
        generalize w.alloc (.cells #[.int .i64 0, .int .i64 0] 142) = w1 at *
        refine (sumOf_any a len cap ss _ hs (by omega) HZ.out).mono ?_
        rintro e w' ⟨rfl, rfl⟩
        go_wp2_with fail
        refine (lowest_any (sumI ss) len _ hs1 (by omega) (by omega) (by omega)).mono ?_
        rintro e w2 ⟨rfl, hw2⟩
        have hrb2 := hw2.heap hrb trivial
        have hk2 := hk1.trans hw2
        have c0 := cell_at (i := 0) hrb2 rfl
        have c1 := cell_at (i := 1) hrb2 rfl
        have z0 := frozen_at (i := 0) hrb2
        have z1 := frozen_at (i := 1) hrb2
        have hfin := box2' hrb2 (.int .i64 (lowNum (sumI ss) len)) (.int .i64 (lowDen (sumI ss) len))
        have r0 := cell_at (i := 0) hfin rfl
        have r1 := cell_at (i := 1) hfin rfl
        clear hrb hrb2 hfin hk1 hs
        go_wp2_with fail
        refine bodyPost_ret (v := .agg #[.int .i64 (lowNum (sumI ss) len), .int .i64 (lowDen (sumI ss) len)]) ?_ rfl ⟨ret_frac HV.out.1.symm HV.out.2.symm, ((hk2.then_setNew _ _ (by simp)).then_setNew _ _ (by simp))⟩
        simp [results, Tryz.results124, go_sem, r0, r1]
      · have e1 : (c == 1) = false := by simpa using h1
        have hvc := val_crit (ss := ss) (Or.inl h1)
        have HVC := Lib.hid hvc
        have H1 := Lib.hid h1
        clear hvc h1
        subst ha
        have hnz : 0 < len := by omega
        clear h0 hz
        by_cases h2 : c = 2
        · subst h2
          have HV := Lib.hid (show valN 2 ss = ss.getD 0 0 ∧ valD 2 ss = 1 from by rw [HVC.out.1, HVC.out.2]; exact crit_least HN.out)
          have hc0 := HC.out 0 hnz
          simp only [Nat.add_zero] at hc0
          generalize ss.getD 0 0 = zq at *
          go_enter Tryz.func124, Tryz.ntmps124
          go_wp2_with fail
          generalize w.alloc (.cells #[.int .i64 0, .int .i64 0] 142) = w1 at *
          refine (whole_any zq _).mono ?_
          rintro e w2 ⟨rfl, hw2⟩
          have hrb2 := hw2.heap hrb trivial
          have hk2 := hk1.trans hw2
          have c0 := cell_at (i := 0) hrb2 rfl
          have c1 := cell_at (i := 1) hrb2 rfl
          have z0 := frozen_at (i := 0) hrb2
          have z1 := frozen_at (i := 1) hrb2
          have hfin := box2' hrb2 (.int .i64 zq) (.int .i64 1)
          have r0 := cell_at (i := 0) hfin rfl
          have r1 := cell_at (i := 1) hfin rfl
          clear hrb hrb2 hfin hk1 hs
          go_wp2_with fail
          refine bodyPost_ret (v := .agg #[.int .i64 zq, .int .i64 1]) ?_ rfl ⟨ret_frac HV.out.1.symm HV.out.2.symm, ((hk2.then_setNew _ _ (by simp)).then_setNew _ _ (by simp))⟩
          simp [results, Tryz.results124, go_sem, r0, r1]
        · have e2 : (c == 2) = false := by simpa using h2
          by_cases h3 : c = 3
          · subst h3
            have HV := Lib.hid (show valN 3 ss = ss.getD (len - 1) 0 ∧ valD 3 ss = 1 from by rw [HVC.out.1, HVC.out.2, ← Hlen.out]; exact crit_greatest HN.out)
            have hc0 := HC.out (len - 1) (by omega)
            clear h2
            generalize ss.getD (len - 1) 0 = zq at *
            go_enter Tryz.func124, Tryz.ntmps124
            go_wp2_with fail
            generalize w.alloc (.cells #[.int .i64 0, .int .i64 0] 142) = w1 at *
            refine (whole_any zq _).mono ?_
            rintro e w2 ⟨rfl, hw2⟩
            have hrb2 := hw2.heap hrb trivial
            have hk2 := hk1.trans hw2
            have c0 := cell_at (i := 0) hrb2 rfl
            have c1 := cell_at (i := 1) hrb2 rfl
            have z0 := frozen_at (i := 0) hrb2
            have z1 := frozen_at (i := 1) hrb2
            have hfin := box2' hrb2 (.int .i64 zq) (.int .i64 1)
            have r0 := cell_at (i := 0) hfin rfl
            have r1 := cell_at (i := 1) hfin rfl
            clear hrb hrb2 hfin hk1 hs
            go_wp2_with fail
            refine bodyPost_ret (v := .agg #[.int .i64 zq, .int .i64 1]) ?_ rfl ⟨ret_frac HV.out.1.symm HV.out.2.symm, ((hk2.then_setNew _ _ (by simp)).then_setNew _ _ (by simp))⟩
            simp [results, Tryz.results124, go_sem, r0, r1]
          · have e3 : (c == 3) = false := by simpa using h3
            have HV := Lib.hid (show valN c ss = ss.getD ((len - 1) / 2) 0 ∧ valD c ss = 1 from by rw [HVC.out.1, HVC.out.2, ← Hlen.out]; exact crit_middle H1.out h2 h3 H4.out HN.out)
            have hc0 := HC.out ((len - 1) / 2) (by omega)
            clear h2 h3
            generalize ss.getD ((len - 1) / 2) 0 = zq at *
            go_enter Tryz.func124, Tryz.ntmps124
            go_wp2_with fail
            generalize w.alloc (.cells #[.int .i64 0, .int .i64 0] 142) = w1 at *
            refine (whole_any zq _).mono ?_
            rintro e w2 ⟨rfl, hw2⟩
            have hrb2 := hw2.heap hrb trivial
            have hk2 := hk1.trans hw2
            have c0 := cell_at (i := 0) hrb2 rfl
            have c1 := cell_at (i := 1) hrb2 rfl
            have z0 := frozen_at (i := 0) hrb2
            have z1 := frozen_at (i := 1) hrb2
            have hfin := box2' hrb2 (.int .i64 zq) (.int .i64 1)
            have r0 := cell_at (i := 0) hfin rfl
            have r1 := cell_at (i := 1) hfin rfl
            clear hrb hrb2 hfin hk1 hs
            go_wp2_with fail
            refine bodyPost_ret (v := .agg #[.int .i64 zq, .int .i64 1]) ?_ rfl ⟨ret_frac HV.out.1.symm HV.out.2.symm, ((hk2.then_setNew _ _ (by simp)).then_setNew _ _ (by simp))⟩
            simp [results, Tryz.results124, go_sem, r0, r1]

set_option maxRecDepth 100000 in
set_option maxHeartbeats 3200000 in
theorem crit_any (c : Int) (a : Option Addr) (len cap : Nat) (xs : List Mark3) (q : ByteArray) (w : World) (hm : Sl RMark 3 (fun _ => True) w a len xs) (hl : len ≤ 3000) (hx : ∀ x ∈ xs, 0 ≤ x.score ∧ x.score ≤ 10) :
    Calls Tryz.prog 79 #[.int .i64 c, .slice a len cap, .string q] w fun e w' => e = .returned (.agg #[.int .i64 (critN c (srtI (scs xs q))), .int .i64 (critD c (srtI (scs xs q)))]) ∧ All w w' := by
  have hk1 : All w (w.alloc (.cells #[.int .i64 0, .int .i64 0] 142)) := Kept.alloc _ _ _
  have hrb := heap_at w (.cells #[.int .i64 0, .int .i64 0] 142) _ rfl
  have hcs : cntsI (scs xs q) 11 = srtI (scs xs q) := (srtI_cnts (fun z hz => by obtain ⟨m, hm, rfl⟩ := scs_mem hz; exact hx m hm)).symm
  have hzz : ∀ z ∈ srtI (scs xs q), 0 ≤ z ∧ z ≤ 10 := fun z hz => by obtain ⟨m, hm, rfl⟩ := scs_mem (srtI_mem.1 hz); exact hx m hm
  have hnl : (srtI (scs xs q)).length ≤ 3000 := by have := scs_len xs q; have := hm.len; rw [srtI_len]; omega
  have hsc := scores_any a len cap xs q _ (hm.keep RMark.ok hk1) hl
  rw [hcs] at hsc
  have HS := Lib.hid hsc
  have HZ := Lib.hid hzz
  clear hx hcs hsc hm hzz
  generalize srtI (scs xs q) = ss at *
  by_cases h4 : c = 4
  · subst h4
    go_enter Tryz.func79, Tryz.ntmps79
    go_wp2_with fail
    generalize w.alloc (.cells #[.int .i64 0, .int .i64 0] 142) = w1 at *
    refine HS.out.mono ?_
    rintro e w2 ⟨v, rfl, hacc, hw2⟩
    obtain ⟨ap, cp, rfl, hs⟩ := hacc.sl RInt.ok (by decide) (G := fun _ => True) (fun _ h => h.elim) (fun _ _ => trivial)
    clear hacc HS
    obtain ⟨m, hm⟩ : ∃ m, m = ss.length := ⟨_, rfl⟩
    have HM := Lib.hid hm
    rw [← hm] at hs hnl ⊢
    clear hm
    have HV := Lib.hid (show critN 4 ss = (m : Int) ∧ critD 4 ss = 1 from by rw [(crit_many ss).1, (crit_many ss).2, HM.out]; exact ⟨rfl, rfl⟩)
    clear hs
    have hrb2 := hw2.heap hrb trivial
    have hk2 := hk1.trans hw2
    have c0 := cell_at (i := 0) hrb2 rfl
    have c1 := cell_at (i := 1) hrb2 rfl
    have z0 := frozen_at (i := 0) hrb2
    have z1 := frozen_at (i := 1) hrb2
    have hfin := box2' hrb2 (.int .i64 m) (.int .i64 1)
    have r0 := cell_at (i := 0) hfin rfl
    have r1 := cell_at (i := 1) hfin rfl
    clear hrb hrb2 hfin hk1
    go_wp2_with fail
    refine bodyPost_ret (v := .agg #[.int .i64 m, .int .i64 1]) ?_ rfl ⟨ret_frac HV.out.1.symm HV.out.2.symm, ((hk2.then_setNew _ _ (by simp)).then_setNew _ _ (by simp))⟩
    simp [results, Tryz.results79, go_sem, r0, r1]
  · have e4 : (c == 4) = false := by simpa using h4
    by_cases hn : ss = []
    · subst hn
      have HV := Lib.hid (show critN c [] = -1 ∧ critD c [] = 1 from crit_none h4)
      clear h4
      go_enter Tryz.func79, Tryz.ntmps79
      go_wp2_with fail
      generalize w.alloc (.cells #[.int .i64 0, .int .i64 0] 142) = w1 at *
      refine HS.out.mono ?_
      rintro e w2 ⟨v, rfl, hacc, hw2⟩
      obtain ⟨ap, cp, rfl, hs⟩ := hacc.sl RInt.ok (by decide) (G := fun _ => True) (fun _ h => h.elim) (fun _ _ => trivial)
      clear hacc HS
      simp only [List.length_nil]
      clear hs
      have hrb2 := hw2.heap hrb trivial
      have hk2 := hk1.trans hw2
      have c0 := cell_at (i := 0) hrb2 rfl
      have c1 := cell_at (i := 1) hrb2 rfl
      have z0 := frozen_at (i := 0) hrb2
      have z1 := frozen_at (i := 1) hrb2
      have hfin := box2' hrb2 (.int .i64 (-1)) (.int .i64 1)
      have r0 := cell_at (i := 0) hfin rfl
      have r1 := cell_at (i := 1) hfin rfl
      clear hrb hrb2 hfin hk1
      go_wp2_with fail
      refine bodyPost_ret (v := .agg #[.int .i64 (-1), .int .i64 1]) ?_ rfl ⟨ret_frac HV.out.1.symm HV.out.2.symm, ((hk2.then_setNew _ _ (by simp)).then_setNew _ _ (by simp))⟩
      simp [results, Tryz.results79, go_sem, r0, r1]
    · have HN := Lib.hid hn
      have H4 := Lib.hid h4
      have hlp : 0 < ss.length := List.length_pos_iff.2 hn
      clear hn h4
      by_cases h1 : c = 1
      · subst h1
        have hsb := sumI_bound HZ.out
        obtain ⟨hs1, hs2⟩ := hsb
        go_enter Tryz.func79, Tryz.ntmps79
        go_wp2_with fail
        generalize w.alloc (.cells #[.int .i64 0, .int .i64 0] 142) = w1 at *
        refine HS.out.mono ?_
        rintro e w2 ⟨v, rfl, hacc, hw2⟩
        obtain ⟨ap, cp, rfl, hs⟩ := hacc.sl RInt.ok (by decide) (G := fun _ => True) (fun _ h => h.elim) (fun _ _ => trivial)
        clear hacc HS
        obtain ⟨m, hm⟩ : ∃ m, m = ss.length := ⟨_, rfl⟩
        have HM := Lib.hid hm
        rw [← hm] at hs hnl ⊢
        clear hm
        rw [← HM.out] at hs2 hlp
        have e0 : ((m : Int) == 0) = false := by simp; omega
        have hs3 : sumI ss ≤ 30000 := by omega
        have HV := Lib.hid (show critN 1 ss = sumI ss ∧ critD 1 ss = m from by rw [(crit_mean HN.out).1, (crit_mean HN.out).2, HM.out]; exact ⟨rfl, rfl⟩)
        clear hs2
        have hrb2 := hw2.heap hrb trivial
        have hk2 := hk1.trans hw2
        have c0 := cell_at (i := 0) hrb2 rfl
        have c1 := cell_at (i := 1) hrb2 rfl
        have z0 := frozen_at (i := 0) hrb2
        have z1 := frozen_at (i := 1) hrb2
        have hfin := box2' hrb2 (.int .i64 (sumI ss)) (.int .i64 m)
        have r0 := cell_at (i := 0) hfin rfl
        have r1 := cell_at (i := 1) hfin rfl
        clear hrb hrb2 hfin hk1
        go_wp2_with fail
        refine (total_any ap m cp ss _ hs (by omega) HZ.out).mono ?_
        rintro e w' ⟨rfl, rfl⟩
        go_wp2_with fail
        refine bodyPost_ret (v := .agg #[.int .i64 (sumI ss), .int .i64 m]) ?_ rfl ⟨ret_frac HV.out.1.symm HV.out.2.symm, ((hk2.then_setNew _ _ (by simp)).then_setNew _ _ (by simp))⟩
        simp [results, Tryz.results79, go_sem, r0, r1]
      · have e1 : (c == 1) = false := by simpa using h1
        have H1 := Lib.hid h1
        clear h1
        by_cases h2 : c = 2
        · subst h2
          go_enter Tryz.func79, Tryz.ntmps79
          go_wp2_with fail
          generalize w.alloc (.cells #[.int .i64 0, .int .i64 0] 142) = w1 at *
          refine HS.out.mono ?_
          rintro e w2 ⟨v, rfl, hacc, hw2⟩
          obtain ⟨ap, cp, rfl, hs⟩ := hacc.sl RInt.ok (by decide) (G := fun _ => True) (fun _ h => h.elim) (fun _ _ => trivial)
          clear hacc HS
          obtain ⟨m, hm⟩ : ∃ m, m = ss.length := ⟨_, rfl⟩
          have HM := Lib.hid hm
          rw [← hm] at hs hnl ⊢
          clear hm
          rw [← HM.out] at hlp
          have e0 : ((m : Int) == 0) = false := by simp; omega
          obtain ⟨b, off, rfl, -, hcs⟩ := hs.ints hlp
          have hc0 := hcs 0 (by omega)
          clear hcs hs
          simp only [Nat.add_zero] at hc0
          have HV := Lib.hid (show critN 2 ss = ss.getD 0 0 ∧ critD 2 ss = 1 from crit_least HN.out)
          generalize ss.getD 0 0 = zq at *
          have hrb2 := hw2.heap hrb trivial
          have hk2 := hk1.trans hw2
          have c0 := cell_at (i := 0) hrb2 rfl
          have c1 := cell_at (i := 1) hrb2 rfl
          have z0 := frozen_at (i := 0) hrb2
          have z1 := frozen_at (i := 1) hrb2
          have hfin := box2' hrb2 (.int .i64 zq) (.int .i64 1)
          have r0 := cell_at (i := 0) hfin rfl
          have r1 := cell_at (i := 1) hfin rfl
          clear hrb hrb2 hfin hk1
          go_wp2_with fail
          refine bodyPost_ret (v := .agg #[.int .i64 zq, .int .i64 1]) ?_ rfl ⟨ret_frac HV.out.1.symm HV.out.2.symm, ((hk2.then_setNew _ _ (by simp)).then_setNew _ _ (by simp))⟩
          simp [results, Tryz.results79, go_sem, r0, r1]
        · have e2 : (c == 2) = false := by simpa using h2
          by_cases h3 : c = 3
          · subst h3
            go_enter Tryz.func79, Tryz.ntmps79
            go_wp2_with fail
            generalize w.alloc (.cells #[.int .i64 0, .int .i64 0] 142) = w1 at *
            refine HS.out.mono ?_
            rintro e w2 ⟨v, rfl, hacc, hw2⟩
            obtain ⟨ap, cp, rfl, hs⟩ := hacc.sl RInt.ok (by decide) (G := fun _ => True) (fun _ h => h.elim) (fun _ _ => trivial)
            clear hacc HS
            obtain ⟨m, hm⟩ : ∃ m, m = ss.length := ⟨_, rfl⟩
            have HM := Lib.hid hm
            rw [← hm] at hs hnl ⊢
            clear hm
            rw [← HM.out] at hlp
            have e0 : ((m : Int) == 0) = false := by simp; omega
            obtain ⟨b, off, rfl, -, hcs⟩ := hs.ints hlp
            have hc0 := hcs (m - 1) (by omega)
            clear hcs hs
            have HV := Lib.hid (show critN 3 ss = ss.getD (m - 1) 0 ∧ critD 3 ss = 1 from by rw [HM.out]; exact crit_greatest HN.out)
            clear h2
            generalize ss.getD (m - 1) 0 = zq at *
            have hrb2 := hw2.heap hrb trivial
            have hk2 := hk1.trans hw2
            have c0 := cell_at (i := 0) hrb2 rfl
            have c1 := cell_at (i := 1) hrb2 rfl
            have z0 := frozen_at (i := 0) hrb2
            have z1 := frozen_at (i := 1) hrb2
            have hfin := box2' hrb2 (.int .i64 zq) (.int .i64 1)
            have r0 := cell_at (i := 0) hfin rfl
            have r1 := cell_at (i := 1) hfin rfl
            clear hrb hrb2 hfin hk1
            go_wp2_with fail
            refine bodyPost_ret (v := .agg #[.int .i64 zq, .int .i64 1]) ?_ rfl ⟨ret_frac HV.out.1.symm HV.out.2.symm, ((hk2.then_setNew _ _ (by simp)).then_setNew _ _ (by simp))⟩
            simp [results, Tryz.results79, go_sem, r0, r1]
          · have e3 : (c == 3) = false := by simpa using h3
            have H23 := Lib.hid (And.intro h2 h3)
            clear h2 h3
            go_enter Tryz.func79, Tryz.ntmps79
            go_wp2_with fail
            generalize w.alloc (.cells #[.int .i64 0, .int .i64 0] 142) = w1 at *
            refine HS.out.mono ?_
            rintro e w2 ⟨v, rfl, hacc, hw2⟩
            obtain ⟨ap, cp, rfl, hs⟩ := hacc.sl RInt.ok (by decide) (G := fun _ => True) (fun _ h => h.elim) (fun _ _ => trivial)
            clear hacc HS
            obtain ⟨m, hm⟩ : ∃ m, m = ss.length := ⟨_, rfl⟩
            have HM := Lib.hid hm
            rw [← hm] at hs hnl ⊢
            clear hm
            rw [← HM.out] at hlp
            have e0 : ((m : Int) == 0) = false := by simp; omega
            obtain ⟨b, off, rfl, -, hcs⟩ := hs.ints hlp
            have hc0 := hcs ((m - 1) / 2) (by omega)
            clear hcs hs
            have HV := Lib.hid (show critN c ss = ss.getD ((m - 1) / 2) 0 ∧ critD c ss = 1 from by rw [HM.out]; exact crit_middle H1.out H23.out.1 H23.out.2 H4.out HN.out)
            generalize ss.getD ((m - 1) / 2) 0 = zq at *
            have hrb2 := hw2.heap hrb trivial
            have hk2 := hk1.trans hw2
            have c0 := cell_at (i := 0) hrb2 rfl
            have c1 := cell_at (i := 1) hrb2 rfl
            have z0 := frozen_at (i := 0) hrb2
            have z1 := frozen_at (i := 1) hrb2
            have hfin := box2' hrb2 (.int .i64 zq) (.int .i64 1)
            have r0 := cell_at (i := 0) hfin rfl
            have r1 := cell_at (i := 1) hfin rfl
            clear hrb hrb2 hfin hk1
            go_wp2_with fail
            refine bodyPost_ret (v := .agg #[.int .i64 zq, .int .i64 1]) ?_ rfl ⟨ret_frac HV.out.1.symm HV.out.2.symm, ((hk2.then_setNew _ _ (by simp)).then_setNew _ _ (by simp))⟩
            simp [results, Tryz.results79, go_sem, r0, r1]
end Go.Proofs.YtiecaedgphdfdaaGreatDoor
