/- Mean and MeanOf. -/
import Derived.Test.YtllkemadaemjeaaGreatDoorRc
import Derived.Test.YtllkemadaemjeaaGreatDoorRd
import Derived.Test.YtllkemadaemjeaaGreatDoorRe
namespace Go.Proofs.YtllkemadaemjeaaGreatDoor
open Go.RowKit

noncomputable def meanE (xs : List Mark3) (p : ByteArray) : Int := if marksF xs ≠ 0 then marksF xs else if isKeyB p = false then 5 else if scs xs p = [] then 8 else 0
def meanN (xs : List Mark3) (p : ByteArray) : Int := lowNum (sumI (srtI (scs xs p))) (srtI (scs xs p)).length
def meanD (xs : List Mark3) (p : ByteArray) : Int := lowDen (sumI (srtI (scs xs p))) (srtI (scs xs p)).length
def MeanPost (xs : List Mark3) (p : ByteArray) (w : World) (e : Ending) (w' : World) : Prop :=
  (meanE xs p ≠ 0 → e = .returned (.tuple #[.agg #[.int .i64 0, .int .i64 0], .int .i64 (meanE xs p)])) ∧ (meanE xs p = 0 → e = .returned (.tuple #[.agg #[.int .i64 (meanN xs p), .int .i64 (meanD xs p)], .int .i64 0])) ∧ All w w'
theorem srtI_bound {xs : List Mark3} {p : ByteArray} (h : ∀ x ∈ xs, 0 ≤ x.score ∧ x.score ≤ 10) : ∀ z ∈ srtI (scs xs p), 0 ≤ z ∧ z ≤ 10 := fun z hz => by
  obtain ⟨m, hm, rfl⟩ := scs_mem (srtI_mem.1 hz)
  exact h m hm

set_option maxRecDepth 100000 in
set_option maxHeartbeats 3200000 in
theorem mean_any (a : Option Addr) (len cap : Nat) (xs : List Mark3) (p : ByteArray) (w : World) (hs : Sl RMark 3 (fun _ => True) w a len xs) (hl : len ≤ 1000000) (hp : p.size ≤ 1000000) :
    Calls Tryz.prog 62 #[.slice a len cap, .string p] w (MeanPost xs p w) := by
  have Hlen := Lib.hid hs.len
  have hk1 : All w (w.alloc (.cells #[.int .i64 0, .int .i64 0] 113)) := Kept.alloc _ _ _
  have hrb := heap_at w (.cells #[.int .i64 0, .int .i64 0] 113) _ rfl
  replace hs := hs.keep RMark.ok hk1
  by_cases h0 : marksF xs = 0
  · cases hk : isKeyB p
    · have HE := Lib.hid (show meanE xs p = 5 by rw [meanE, if_neg (by simp [h0]), if_pos hk])
      go_enter Tryz.func62, Tryz.ntmps62
      go_wp2_with fail
      generalize w.alloc (.cells #[.int .i64 0, .int .i64 0] 113) = w1 at *
      refine (checkMarks_any a len cap xs _ hs hl).mono ?_
      rintro e w2 ⟨rfl, hw2⟩
      rw [h0]
      have hk2 := hk1.trans hw2
      have hrb2 := hw2.heap hrb trivial
      have c0 := cell_at (i := 0) hrb2 rfl
      have c1 := cell_at (i := 1) hrb2 rfl
      have z0 := frozen_at (i := 0) hrb2
      have z1 := frozen_at (i := 1) hrb2
      have hfin := box2' hrb2 (.int .i64 0) (.int .i64 0)
      have r0 := cell_at (i := 0) hfin rfl
      have r1 := cell_at (i := 1) hfin rfl
      clear hrb hrb2 hfin hw2 hk1
      go_wp2_with fail
      refine (isKey_any p _ (by omega)).mono ?_
      rintro e w' ⟨rfl, rfl⟩
      rw [hk]
      go_wp2_with fail
      refine bodyPost_ret (v := .tuple #[.agg #[.int .i64 0, .int .i64 0], .int .i64 5]) ?_ rfl ⟨fun _ => by rw [HE.out], (fun h => by rw [HE.out] at h; cases h), ((hk2.then_setNew _ _ (by simp)).then_setNew _ _ (by simp))⟩
      simp [results, Tryz.results62, go_sem, r0, r1]
    · obtain ⟨hx1, hx2⟩ := marksF_scores h0
      have hl3 : len ≤ 3000 := by have := Hlen.out; omega
      have HB := Lib.hid (srtI_bound (p := p) hx2)
      have hnl : (srtI (scs xs p)).length ≤ 3000 := by have := scs_len xs p; rw [srtI_len]; omega
      clear hx1 hx2
      by_cases hn : scs xs p = []
      · have HE := Lib.hid (show meanE xs p = 8 by rw [meanE, if_neg (by simp [h0]), if_neg (by simp [hk]), if_pos hn])
        have hsn : (srtI (scs xs p)).length = 0 := by rw [srtI_len, hn]; rfl
        go_enter Tryz.func62, Tryz.ntmps62
        go_wp2_with fail
        generalize w.alloc (.cells #[.int .i64 0, .int .i64 0] 113) = w1 at *
        refine (checkMarks_any a len cap xs _ hs hl).mono ?_
        rintro e w2 ⟨rfl, hw2⟩
        rw [h0]
        go_wp2_with fail
        refine (isKey_any p _ (by omega)).mono ?_
        rintro e w' ⟨rfl, rfl⟩
        rw [hk]
        go_wp2_with fail
        refine (scoresOf_any a len cap xs _ (hs.keep RMark.ok hw2) hl3).mono ?_
        rintro e w3 ⟨mb, n, vals, rfl, hsc, hw3⟩
        have l1 := hsc.look Tryz.underlying159 p hp
        have hv := hsc.nil p (srtI_nil.2 hn)
        rw [hv] at l1
        have hk3 := (hk1.trans hw2).trans hw3
        have hrb3 := (hw2.trans hw3).heap hrb trivial
        have c0 := cell_at (i := 0) hrb3 rfl
        have c1 := cell_at (i := 1) hrb3 rfl
        have z0 := frozen_at (i := 0) hrb3
        have z1 := frozen_at (i := 1) hrb3
        have hfin := box2' hrb3 (.int .i64 0) (.int .i64 0)
        have r0 := cell_at (i := 0) hfin rfl
        have r1 := cell_at (i := 1) hfin rfl
        clear hrb hrb3 hfin hw2 hw3 hk1 hsc hv hn hsn
        go_wp2_with fail
        refine bodyPost_ret (v := .tuple #[.agg #[.int .i64 0, .int .i64 0], .int .i64 8]) ?_ rfl ⟨fun _ => by rw [HE.out], (fun h => by rw [HE.out] at h; cases h), ((hk3.then_setNew _ _ (by simp)).then_setNew _ _ (by simp))⟩
        simp [results, Tryz.results62, go_sem, r0, r1]
      · have HE := Lib.hid (show meanE xs p = 0 by rw [meanE, if_neg (by simp [h0]), if_neg (by simp [hk]), if_neg hn])
        have hsn : 0 < (srtI (scs xs p)).length := by
          rw [srtI_len]
          exact List.length_pos_iff.2 hn
        have hsb := sumI_bound HB.out
        obtain ⟨hs1, hs2⟩ := hsb
        have hs3 : sumI (srtI (scs xs p)) ≤ 30000 := by omega
        have HN := Lib.hid (show meanN xs p = lowNum (sumI (srtI (scs xs p))) (srtI (scs xs p)).length from rfl)
        have HD := Lib.hid (show meanD xs p = lowDen (sumI (srtI (scs xs p))) (srtI (scs xs p)).length from rfl)
        go_enter Tryz.func62, Tryz.ntmps62
        go_wp2_with fail
        generalize w.alloc (.cells #[.int .i64 0, .int .i64 0] 113) = w1 at *
        refine (checkMarks_any a len cap xs _ hs hl).mono ?_
        rintro e w2 ⟨rfl, hw2⟩
        rw [h0]
        go_wp2_with fail
        refine (isKey_any p _ (by omega)).mono ?_
        rintro e w' ⟨rfl, rfl⟩
        rw [hk]
        go_wp2_with fail
        refine (scoresOf_any a len cap xs _ (hs.keep RMark.ok hw2) hl3).mono ?_
        rintro e w3 ⟨mb, n, vals, rfl, hsc, hw3⟩
        have l1 := hsc.look Tryz.underlying159 p hp
        obtain ⟨ap, cp, hv, hslp⟩ := (hsc.acc p).sl RInt.ok (by decide) (G := fun _ => True) (fun _ h => h.elim) (fun _ _ => trivial)
        rw [hv] at l1
        generalize srtI (scs xs p) = L at *
        obtain ⟨m, hm⟩ : ∃ m, m = L.length := ⟨_, rfl⟩
        rw [← hm] at l1 hslp hsn hnl HN HD
        have hm0 : ((m : Int) == 0) = false := by simp; omega
        have hk3 := (hk1.trans hw2).trans hw3
        clear hsc hv hm hs2
        go_wp2_with fail
        refine (sumOf_any ap m cp L _ hslp (by omega) HB.out).mono ?_
        rintro e w' ⟨rfl, rfl⟩
        go_wp2_with fail
        refine (lowest_any (sumI L) m _ hs1 (by omega) (by omega) (by omega)).mono ?_
        rintro e w4 ⟨rfl, hw4⟩
        have hk4 := hk3.trans hw4
        have hrb3 := ((hw2.trans hw3).trans hw4).heap hrb trivial
        rw [← HN.out, ← HD.out]
        have c0 := cell_at (i := 0) hrb3 rfl
        have c1 := cell_at (i := 1) hrb3 rfl
        have z0 := frozen_at (i := 0) hrb3
        have z1 := frozen_at (i := 1) hrb3
        have hfin := box2' hrb3 (.int .i64 (meanN xs p)) (.int .i64 (meanD xs p))
        have r0 := cell_at (i := 0) hfin rfl
        have r1 := cell_at (i := 1) hfin rfl
        clear hrb hrb3 hfin hw2 hw3 hk1 hslp hw4 hk3 l1
        go_wp2_with fail
        refine bodyPost_ret (v := .tuple #[.agg #[.int .i64 (meanN xs p), .int .i64 (meanD xs p)], .int .i64 0]) ?_ rfl ⟨(fun h => absurd HE.out h), fun _ => rfl, ((hk4.then_setNew _ _ (by simp)).then_setNew _ _ (by simp))⟩
        simp [results, Tryz.results62, go_sem, r0, r1]
  · obtain ⟨er, her⟩ : ∃ er, er = marksF xs := ⟨_, rfl⟩
    have hne : (er != 0) = true := by rw [her]; simpa using h0
    have HE := Lib.hid (show meanE xs p = er by rw [meanE, if_pos h0, her])
    have HNE := Lib.hid (show er ≠ 0 by rw [her]; exact h0)
    go_enter Tryz.func62, Tryz.ntmps62
    go_wp2_with fail
    generalize w.alloc (.cells #[.int .i64 0, .int .i64 0] 113) = w1 at *
    refine (checkMarks_any a len cap xs _ hs hl).mono ?_
    rintro e w2 ⟨rfl, hw2⟩
    rw [← her]
    have hk2 := hk1.trans hw2
    have hrb2 := hw2.heap hrb trivial
    have c0 := cell_at (i := 0) hrb2 rfl
    have c1 := cell_at (i := 1) hrb2 rfl
    have z0 := frozen_at (i := 0) hrb2
    have z1 := frozen_at (i := 1) hrb2
    have hfin := box2' hrb2 (.int .i64 0) (.int .i64 0)
    have r0 := cell_at (i := 0) hfin rfl
    have r1 := cell_at (i := 1) hfin rfl
    clear hrb hrb2 hfin hw2 hk1 her h0
    go_wp2_with fail
    refine bodyPost_ret (v := .tuple #[.agg #[.int .i64 0, .int .i64 0], .int .i64 er]) ?_ rfl ⟨fun _ => by rw [HE.out], (fun h => absurd (HE.out.symm.trans h) HNE.out), ((hk2.then_setNew _ _ (by simp)).then_setNew _ _ (by simp))⟩
    simp [results, Tryz.results62, go_sem, r0, r1]
end Go.Proofs.YtllkemadaemjeaaGreatDoor
