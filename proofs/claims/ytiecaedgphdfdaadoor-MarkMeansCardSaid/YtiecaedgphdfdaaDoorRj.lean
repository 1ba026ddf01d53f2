/- MeanOf; talked. -/
import Derived.Test.YtiecaedgphdfdaaDoorRg
import Derived.Test.YtiecaedgphdfdaaDoorRl
namespace Go.Proofs.YtiecaedgphdfdaaDoor
open Go.RowKit

def MeanOfPost (xs : List Mark3) (p : ByteArray) (w : World) (e : Ending) (w' : World) : Prop :=
  (scs xs p = [] → e = .returned (.tuple #[.agg #[.int .i64 0, .int .i64 0], .bool false])) ∧ (scs xs p ≠ [] → e = .returned (.tuple #[.agg #[.int .i64 (meanN xs p), .int .i64 (meanD xs p)], .bool true])) ∧ All w w'
set_option maxRecDepth 100000 in
set_option maxHeartbeats 3200000 in
theorem meanOf_any (a : Option Addr) (len cap : Nat) (xs : List Mark3) (p : ByteArray) (w : World) (hs : Sl RMark 3 (fun _ => True) w a len xs) (h0 : marksF xs = 0) :
    Calls Tryd.prog 11 #[.slice a len cap, .string p] w (MeanOfPost xs p w) := by
  have Hlen := Lib.hid hs.len
  have hk1 : All w (w.alloc (.cells #[.int .i64 0, .int .i64 0] 31)) := Kept.alloc _ _ _
  have hrb := heap_at w (.cells #[.int .i64 0, .int .i64 0] 31) _ rfl
  replace hs := hs.keep RMark.ok hk1
  obtain ⟨hx1, hx2⟩ := marksF_scores h0
  have hl3 : len ≤ 3000 := by have := Hlen.out; omega
  have hcs : cntsI (scs xs p) 11 = srtI (scs xs p) := (srtI_cnts (fun z hz => by obtain ⟨m, hm, rfl⟩ := scs_mem hz; exact hx2 m hm)).symm
  have HB := Lib.hid (srtI_bound (p := p) hx2)
  have hnl : (srtI (scs xs p)).length ≤ 3000 := by have := scs_len xs p; rw [srtI_len]; omega
  have hsc := scores_any a len cap xs p _ hs hl3
  rw [hcs] at hsc
  have HS := Lib.hid hsc
  clear hx1 hx2 hcs hsc h0 hs
  by_cases hn : scs xs p = []
  · have hsn : srtI (scs xs p) = [] := srtI_nil.2 hn
    have HE := Lib.hid hn
    rw [hsn] at HS
    clear hn hsn
    go_enter Tryd.func11, Tryd.ntmps11
    go_wp2_with fail
    generalize w.alloc (.cells #[.int .i64 0, .int .i64 0] 31) = w1 at *
    refine HS.out.mono ?_
    rintro e w2 ⟨v, rfl, hacc, hw2⟩
    obtain ⟨ap, cp, rfl, -⟩ := hacc.form
    have hk2 := hk1.trans hw2
    have hrb2 := hw2.heap hrb trivial
    have c0 := cell_at (i := 0) hrb2 rfl
    have c1 := cell_at (i := 1) hrb2 rfl
    have z0 := frozen_at (i := 0) hrb2
    have z1 := frozen_at (i := 1) hrb2
    have hfin := box2' hrb2 (.int .i64 0) (.int .i64 0)
    have r0 := cell_at (i := 0) hfin rfl
    have r1 := cell_at (i := 1) hfin rfl
    clear hrb hrb2 hfin hw2 hk1 hacc HS
    simp only [List.length_nil]
    go_wp2_with fail
    refine bodyPost_ret (v := .tuple #[.agg #[.int .i64 0, .int .i64 0], .bool false]) ?_ rfl ⟨fun _ => rfl, (fun h => absurd HE.out h), ((hk2.then_setNew _ _ (by simp)).then_setNew _ _ (by simp))⟩
    simp [results, Tryd.results11, go_sem, r0, r1]
  · have hsn : 0 < (srtI (scs xs p)).length := by
      rw [srtI_len]
      exact List.length_pos_iff.2 hn
    have HE := Lib.hid hn
    have hsb := sumI_bound HB.out
    obtain ⟨hs1, hs2⟩ := hsb
    have hs3 : sumI (srtI (scs xs p)) ≤ 30000 := by omega
    have HN := Lib.hid (show meanN xs p = lowNum (sumI (srtI (scs xs p))) (srtI (scs xs p)).length from rfl)
    have HD := Lib.hid (show meanD xs p = lowDen (sumI (srtI (scs xs p))) (srtI (scs xs p)).length from rfl)
    clear hn hs2
    go_enter Tryd.func11, Tryd.ntmps11
    go_wp2_with fail
    generalize w.alloc (.cells #[.int .i64 0, .int .i64 0] 31) = w1 at *
    refine HS.out.mono ?_
    rintro e w2 ⟨v, rfl, hacc, hw2⟩
    obtain ⟨ap, cp, rfl, hslp⟩ := hacc.sl RInt.ok (by decide) (G := fun _ => True) (fun _ h => h.elim) (fun _ _ => trivial)
    clear HS hacc
    generalize srtI (scs xs p) = L at *
    obtain ⟨m, hm⟩ : ∃ m, m = L.length := ⟨_, rfl⟩
    rw [← hm] at hslp hsn hnl HN HD ⊢
    have hm0 : ((m : Int) == 0) = false := by simp; omega
    have hk2 := hk1.trans hw2
    clear hm
    go_wp2_with fail
    refine (total_any ap m cp L _ hslp (by omega) HB.out).mono ?_
    rintro e w' ⟨rfl, rfl⟩
    go_wp2_with fail
    refine (lowestR_any (sumI L) m _ hs1 (by omega) (by omega) (by omega)).mono ?_
    rintro e w4 ⟨rfl, hw4⟩
    have hk4 := hk2.trans hw4
    have hrb3 := (hw2.trans hw4).heap hrb trivial
    rw [← HN.out, ← HD.out]
    have c0 := cell_at (i := 0) hrb3 rfl
    have c1 := cell_at (i := 1) hrb3 rfl
    have z0 := frozen_at (i := 0) hrb3
    have z1 := frozen_at (i := 1) hrb3
    have hfin := box2' hrb3 (.int .i64 (meanN xs p)) (.int .i64 (meanD xs p))
    have r0 := cell_at (i := 0) hfin rfl
    have r1 := cell_at (i := 1) hfin rfl
    clear hrb hrb3 hfin hw2 hk1 hslp hw4 hk2
    go_wp2_with fail
    refine bodyPost_ret (v := .tuple #[.agg #[.int .i64 (meanN xs p), .int .i64 (meanD xs p)], .bool true]) ?_ rfl ⟨(fun h => absurd h HE.out), fun _ => rfl, ((hk4.then_setNew _ _ (by simp)).then_setNew _ _ (by simp))⟩
    simp [results, Tryd.results11, go_sem, r0, r1]
end Go.Proofs.YtiecaedgphdfdaaDoor
