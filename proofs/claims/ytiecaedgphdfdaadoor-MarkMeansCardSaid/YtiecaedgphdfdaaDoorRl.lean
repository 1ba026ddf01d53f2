/- Lowest of the reference. -/
import Derived.Test.YtiecaedgphdfdaaDoorRd
namespace Go.Proofs.YtiecaedgphdfdaaDoor
open Go.RowKit

set_option maxHeartbeats 800000 in
theorem lowestR_any (n d : Int) (w : World) (hn : 0 ≤ n) (hn2 : n ≤ 1000000000000) (hd : 1 ≤ d) (hd2 : d ≤ 1000000000000) :
    Calls Tryd.prog 30 #[.int .i64 n, .int .i64 d] w fun e w' => e = .returned (.agg #[.int .i64 (lowNum n d), .int .i64 (lowDen n d)]) ∧ All w w' := by
  have hg1 : 1 ≤ (Int.gcd n d : Int) := by
    have : 0 < Int.gcd n d := Int.gcd_pos_of_ne_zero_right _ (by omega)
    omega
  have hg2 : (Int.gcd n d : Int) ≤ d := Int.le_of_dvd (by omega) (Int.gcd_dvd_right _ _)
  have HN := Lib.hid (show lowNum n d = n.tdiv (Int.gcd n d) from rfl)
  have HD := Lib.hid (show lowDen n d = d.tdiv (Int.gcd n d) from rfl)
  have hq1 : n.tdiv (Int.gcd n d) = n / (Int.gcd n d : Int) := Int.tdiv_eq_ediv_of_nonneg hn
  have hq2 : d.tdiv (Int.gcd n d) = d / (Int.gcd n d : Int) := Int.tdiv_eq_ediv_of_nonneg (by omega)
  have hk1 : All w (w.alloc (.cells #[.int .i64 0, .int .i64 0] 31)) := Kept.alloc _ _ _
  have hrb := heap_at w (.cells #[.int .i64 0, .int .i64 0] 31) _ rfl
  go_enter Tryd.func30, Tryd.ntmps30
  go_wp2_with fail
  generalize w.alloc (.cells #[.int .i64 0, .int .i64 0] 31) = w1 at *
  go_loopw [5, 6] (fun x y wr => ∃ p q : Int, x = .int .i64 p ∧ y = .int .i64 q ∧ 0 ≤ p ∧ p ≤ 1000000000000 ∧ 0 ≤ q ∧ q ≤ 1000000000000 ∧ Int.gcd p q = Int.gcd n d ∧ All w1 wr) (fun _ y _ => (intOf y).toNat)
  case atStart => exact ⟨n, d, rfl, rfl, hn, hn2, by omega, hd2, rfl, Kept.refl _ _⟩
  case round =>
    obtain ⟨p, q, rfl, rfl, hp1, hp2, hq1', hq2', hg, hw2⟩ := hrel
    obtain ⟨w2, rfl⟩ : ∃ wo : World, wo = wr := ⟨_, rfl⟩
    by_cases h0 : q = 0
    · subst h0
      have he : (Int.gcd n d : Int) = p := by rw [← hg, Int.gcd_zero_right]; omega
      rw [he] at HN HD hq1 hq2 hg1 hg2
      rw [hq1] at HN
      rw [hq2] at HD
      clear he hg
      have hrb2 := hw2.heap hrb trivial
      have hk2 := hk1.trans hw2
      have hx1 : 0 ≤ n / p := Int.ediv_nonneg hn (by omega)
      have hx2 : n / p ≤ n := Int.ediv_le_self _ hn
      have hy1 : 0 ≤ d / p := Int.ediv_nonneg (by omega) (by omega)
      have hy2 : d / p ≤ d := Int.ediv_le_self _ (by omega)
      have c0 := cell_at (i := 0) hrb2 rfl
      have c1 := cell_at (i := 1) hrb2 rfl
      have z0 := frozen_at (i := 0) hrb2
      have z1 := frozen_at (i := 1) hrb2
      have hneg : decide (p < 0) = false := by simp; omega
      have hfin := box2 hrb2 (.int .i64 (n / p)) (.int .i64 (d / p))
      have r0 := cell_at (i := 0) hfin rfl
      have r1 := cell_at (i := 1) hfin rfl
      clear hq1 hq2 hrb hrb2 hw2 hk1 hfin
      go_wp2_with fail
      go_region
      go_wp2_with fail
      refine bodyPost_ret (v := .agg #[.int .i64 (n / p), .int .i64 (d / p)]) ?_ rfl ⟨ret_frac HN.out.symm HD.out.symm, ((hk2.then_setNew _ _ (by simp)).then_setNew _ _ (by simp)).then_drew⟩
      simp [results, Tryd.results30, go_sem, r0, r1]
    · have hne : (q != 0) = true := by simpa using h0
      have hr1 : 0 ≤ p % q := Int.emod_nonneg _ h0
      have hr2 : p % q < q := Int.emod_lt_of_pos _ (by omega)
      have HG := Lib.hid (show Int.gcd q (p % q) = Int.gcd n d by rw [gcd_emod p q hp1]; exact hg)
      clear hg
      go_wp2_with fail
      go_quiet (fail)
      go_wp2_with fail
      go_roundw
      case rel => exact ⟨q, p % q, rfl, rfl, hq1', hq2', hr1, by omega, HG.out, hw2.then_drewN _⟩
      case measure => simp [intOf]; omega
end Go.Proofs.YtiecaedgphdfdaaDoor
