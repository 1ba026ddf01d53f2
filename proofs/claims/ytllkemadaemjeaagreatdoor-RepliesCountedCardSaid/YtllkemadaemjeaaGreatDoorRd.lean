/- Sums, greatest common divisors, fractions. -/
import Derived.Test.YtllkemadaemjeaaGreatDoorRa
import Derived.Test.YtllkemadaemjeaaGreatDoorZb
namespace Go.Proofs.YtllkemadaemjeaaGreatDoor
open Go.RowKit

theorem sumOf_any (a : Option Addr) (len cap : Nat) (zs : List Int) (w : World) (hs : Sl RInt 1 (fun _ => True) w a len zs) (hl : len ≤ 1000000) (hz : ∀ z ∈ zs, 0 ≤ z ∧ z ≤ 10) :
    Calls Tryz.prog 115 #[.slice a len cap] w fun e w' => e = .returned (.int .i64 (sumI zs)) ∧ w = w' := by
  have Hlen := Lib.hid hs.len
  have HZ := Lib.hid hz
  clear hz
  go_enter Tryz.func115, Tryz.ntmps115
  go_wp2_with fail
  go_loop [3, 8] (fun n i => ∃ k : Nat, k ≤ len ∧ i = .int .i64 k ∧ n = .int .i64 (sumI (zs.take k))) (fun _ i => len - (intOf i).toNat)
  case atStart => exact ⟨0, Nat.zero_le _, rfl, by simp [sumI]⟩
  case round =>
    obtain ⟨k, hk, rfl, rfl⟩ := hrel
    by_cases hlt : k < len
    · obtain ⟨b, off, y, ha, -, cy, hy, -, ht⟩ := hs.atInt hlt
      subst ha
      have hy1 := HZ.out y (List.mem_of_getElem? hy)
      obtain ⟨hy1, hy2⟩ := hy1
      have hb := sumI_bound (l := zs.take k) (M := 10) (fun z hz => HZ.out z (List.mem_of_mem_take hz))
      have hbl : ((zs.take k).length : Int) ≤ 1000000 := by simp; omega
      have hs1 : 0 ≤ sumI (zs.take k) := hb.1
      have hs2 : sumI (zs.take k) ≤ 10000000 := by have := hb.2; omega
      have HN := Lib.hid (sumI_succ ht)
      clear hb hbl ht hy
      generalize sumI (zs.take k) = sk at *
      go_wp2_with fail
      go_round
      case rel => exact ⟨k + 1, by omega, by go_num, by rw [HN.out]⟩
      case measure => simp [intOf]; omega
    · have hd : decide ((k : Int) < (len : Int)) = false := by simp; omega
      have he := Lib.hid (show zs.take k = zs from List.take_of_length_le (by have := Hlen.out; omega))
      go_wp2_with fail
      go_ret
      exact ⟨ret_int' (by rw [he.out]), rfl⟩
theorem gcd_emod (a b : Int) (ha : 0 ≤ a) : Int.gcd b (a % b) = Int.gcd a b := by
  rw [← Int.tmod_eq_emod_of_nonneg ha]; exact gcd_tmod a b
set_option maxHeartbeats 800000 in
theorem gcd_any (a b : Int) (w : World) (ha : 0 ≤ a) (ha2 : a ≤ 1000000000000) (hb : 0 ≤ b) (hb2 : b ≤ 1000000000000) :
    Calls Tryz.prog 158 #[.int .i64 a, .int .i64 b] w fun e w' => e = .returned (.int .i64 (Int.gcd a b)) ∧ All w w' := by
  go_enter Tryz.func158, Tryz.ntmps158
  go_wp2_with fail
  go_loopw [0, 1] (fun x y wr => ∃ p q : Int, x = .int .i64 p ∧ y = .int .i64 q ∧ 0 ≤ p ∧ p ≤ 1000000000000 ∧ 0 ≤ q ∧ q ≤ 1000000000000 ∧ Int.gcd p q = Int.gcd a b ∧ All w wr) (fun _ y _ => (intOf y).toNat)
  case atStart => exact ⟨a, b, rfl, rfl, ha, ha2, hb, hb2, rfl, Kept.refl _ _⟩
  case round =>
    obtain ⟨p, q, rfl, rfl, hp1, hp2, hq1, hq2, hg, hw⟩ := hrel
    obtain ⟨wo, rfl⟩ : ∃ wo : World, wo = wr := ⟨_, rfl⟩
    by_cases h0 : q = 0
    · subst h0
      have he : (Int.gcd a b : Int) = p := by rw [← hg, Int.gcd_zero_right]; omega
      have HE := Lib.hid he
      clear he hg
      go_wp2_with fail
      go_ret
      exact ⟨ret_int' (by rw [HE.out]; omega), hw⟩
    · have hne : (q != 0) = true := by simpa using h0
      have hr1 : 0 ≤ p % q := Int.emod_nonneg _ h0
      have hr2 : p % q < q := Int.emod_lt_of_pos _ (by omega)
      have HG := Lib.hid (show Int.gcd q (p % q) = Int.gcd a b by rw [gcd_emod p q hp1]; exact hg)
      clear hg
      go_wp2_with fail
      go_quiet (fail)
      go_wp2_with fail
      go_roundw
      case rel => exact ⟨q, p % q, rfl, rfl, hq1, hq2, hr1, by omega, HG.out, hw.then_drewN _⟩
      case measure => simp [intOf]; omega

theorem box2' {w : World} {b : Nat} {t : TypeId} {a0 a1 : Value} (h : w.heap[b]? = some (.cells #[a0, a1] t (0, 0))) (u0 u1 : Value) :
    ((w.setCell ⟨b, 0, none⟩ u0).setCell ⟨b, 1, none⟩ u1).heap[b]? = some (.cells #[u0, u1] t (0, 0)) := by
  have h0 := heap_setCell_at w b 0 u0 _ _ _ h
  have h1 := heap_setCell_at _ b 1 u1 _ _ _ h0
  simpa using h1
theorem box2 {w : World} {b : Nat} {t : TypeId} {a0 a1 : Value} (h : w.heap[b]? = some (.cells #[a0, a1] t (0, 0))) (u0 u1 : Value) :
    ((w.setCell ⟨b, 0, none⟩ u0).setCell ⟨b, 1, none⟩ u1).drew.heap[b]? = some (.cells #[u0, u1] t (0, 0)) := by
  have h0 := heap_setCell_at w b 0 u0 _ _ _ h
  have h1 := heap_setCell_at _ b 1 u1 _ _ _ h0
  have h2 : ((w.setCell ⟨b, 0, none⟩ u0).setCell ⟨b, 1, none⟩ u1).drew.heap[b]? = ((w.setCell ⟨b, 0, none⟩ u0).setCell ⟨b, 1, none⟩ u1).heap[b]? := rfl
  rw [h2]
  simpa using h1
theorem ret_frac {a b c d : Int} (h : a = c) (h2 : b = d) : Ending.returned (.agg #[.int .i64 a, .int .i64 b]) = .returned (.agg #[.int .i64 c, .int .i64 d]) := by rw [h, h2]
set_option maxHeartbeats 800000 in
theorem lowest_any (n d : Int) (w : World) (hn : 0 ≤ n) (hn2 : n ≤ 1000000000000) (hd : 1 ≤ d) (hd2 : d ≤ 1000000000000) :
    Calls Tryz.prog 114 #[.int .i64 n, .int .i64 d] w fun e w' => e = .returned (.agg #[.int .i64 (lowNum n d), .int .i64 (lowDen n d)]) ∧ All w w' := by
  have hdd : decide (d < 0) = false := by simp; omega
  have hg1 : 1 ≤ (Int.gcd n d : Int) := by
    have : 0 < Int.gcd n d := Int.gcd_pos_of_ne_zero_right _ (by omega)
    omega
  have hg2 : (Int.gcd n d : Int) ≤ d := Int.le_of_dvd (by omega) (Int.gcd_dvd_right _ _)
  have HN := Lib.hid (show lowNum n d = n.tdiv (Int.gcd n d) from rfl)
  have HD := Lib.hid (show lowDen n d = d.tdiv (Int.gcd n d) from rfl)
  have hq1 : n.tdiv (Int.gcd n d) = n / (Int.gcd n d : Int) := Int.tdiv_eq_ediv_of_nonneg hn
  have hq2 : d.tdiv (Int.gcd n d) = d / (Int.gcd n d : Int) := Int.tdiv_eq_ediv_of_nonneg (by omega)
  have hk1 : All w (w.alloc (.cells #[.int .i64 0, .int .i64 0] 113)) := Kept.alloc _ _ _
  have hrb := heap_at w (.cells #[.int .i64 0, .int .i64 0] 113) _ rfl
  go_enter Tryz.func114, Tryz.ntmps114
  go_wp2_with fail
  refine (gcd_any n d _ hn hn2 (by omega) hd2).mono ?_
  rintro e w2 ⟨rfl, hw2⟩
  have hrb2 := hw2.heap hrb trivial
  have hk2 := hk1.trans hw2
  generalize (Int.gcd n d : Int) = g at *
  rw [hq1] at HN
  rw [hq2] at HD
  have hx1 : 0 ≤ n / g := Int.ediv_nonneg hn (by omega)
  have hx2 : n / g ≤ n := Int.ediv_le_self _ hn
  have hy1 : 0 ≤ d / g := Int.ediv_nonneg (by omega) (by omega)
  have hy2 : d / g ≤ d := Int.ediv_le_self _ (by omega)
  have c0 := cell_at (i := 0) hrb2 rfl
  have c1 := cell_at (i := 1) hrb2 rfl
  have z0 := frozen_at (i := 0) hrb2
  have z1 := frozen_at (i := 1) hrb2
  have hfin := box2 hrb2 (.int .i64 (n / g)) (.int .i64 (d / g))
  have r0 := cell_at (i := 0) hfin rfl
  have r1 := cell_at (i := 1) hfin rfl
  clear hq1 hq2 hrb hrb2 hw2 hk1 hfin
  go_wp2_with fail
  go_region
  go_wp2_with fail
  refine bodyPost_ret (v := .agg #[.int .i64 (n / g), .int .i64 (d / g)]) ?_ rfl ⟨ret_frac HN.out.symm HD.out.symm, ((hk2.then_setNew _ _ (by simp)).then_setNew _ _ (by simp)).then_drew⟩
  simp [results, Tryz.results114, go_sem, r0, r1]
end Go.Proofs.YtllkemadaemjeaaGreatDoor
