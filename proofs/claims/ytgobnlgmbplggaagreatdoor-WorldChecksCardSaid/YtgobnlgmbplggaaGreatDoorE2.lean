/- The law WorldChecks, walked. -/
import Derived.Test.YtgobnlgmbplggaaGreatDoorK1
import Derived.Test.YtgobnlgmbplggaaGreatDoorK4
import Derived.Test.YtgobnlgmbplggaaGreatDoorU0
import Derived.Test.YtgobnlgmbplggaaGreatDoorWj
namespace Go.Proofs.YtgobnlgmbplggaaGreatDoor
open Go.RowKit

set_option maxRecDepth 100000 in
set_option maxHeartbeats 12800000 in
theorem worldChecks_walk (a : Option Addr) (len cap : Nat) (w : World) (h : IsRow w a len cap) (hG : Glob w) (hP : Big w) :
    Calls Tryz.prog 3 #[.slice a len cap] w fun e w' => e = .returned (.bool true) ∧ Below w.heap.size w w' := by
  have hst := h.start
  obtain ⟨σ, hσ⟩ : ∃ σ : St, σ = ⟨w.heap.size, a, len, cap⟩ := ⟨_, rfl⟩
  have hσb : σ.b = w.heap.size := by rw [hσ]
  rw [← hσ] at hst
  have Hptr := Lib.hid (show (Value.pointer (some ⟨w.heap.size, 0, none⟩)) = Value.pointer (some ⟨σ.b, 0, none⟩) by rw [hσb])
  have hk0 : All w (w.alloc (.cells #[.slice a len cap, .int .i64 0] 25)) := Kept.alloc _ _ _
  obtain ⟨w0, hw0⟩ : ∃ z, z = w.alloc (.cells #[.slice a len cap, .int .i64 0] 25) := ⟨_, rfl⟩
  rw [← hw0] at hst hk0
  have HW0 := Lib.hid hw0
  obtain ⟨B, hB⟩ : ∃ z, z = w0.heap.size := ⟨_, rfl⟩
  have hσB : σ.b < B := by rw [hB]; exact hst.lt
  have h7 : 7 < σ.b := by rw [hσb]; exact hP
  have HEND := Lib.hid (fun (wx : World) (k : Kept (fun b => b < B ∧ b ≠ σ.b) w0 wx) => (show Below w.heap.size w wx from (hk0.all.trans k).below (Nat.le_refl _) (fun k hk => ⟨by omega, by omega⟩)))
  have HG0 := Lib.hid (hG.keep hk0)
  have HGX0 := Lib.hid (show GenX σ B (fun _ => 8) (fun _ => 8) 0 0 w0 w0 0 from ⟨hst, Nat.le_refl _, Nat.le_refl _, Kept.refl _ _, Goes.refl _ _ _ _, by rw [hB]; exact Nat.le_refl _⟩)
  clear h hG hP hσ hσb hk0 hw0 hB hst
  go_enter Tryz.func3, Tryz.ntmps3
  go_upto_region 2 with fail
  simp only [← HW0.out, Hptr.out]
  clear HW0 Hptr
  have hst := HGX0.out.st
  have hhi := HGX0.out.hi
  go_wp2_with fail
  refine (range_any σ 0 0 7 _ hst (by decide) (by decide) (by decide) (by decide)).mono ?_
  rintro e w1 ⟨v, n1, rfl, ⟨r, rfl, hr1, hr2⟩, hA8, hB8, hs8, hb8⟩
  have HGX1 := Lib.hid (HGX0.out.call hσB hb8 hs8 hA8 hB8)
  obtain ⟨M, rfl⟩ := Int.eq_ofNat_of_zero_le hr1
  clear hst hhi hs8 hb8 hA8 hB8 HGX0
  have hhi := HGX1.out.hi
  go_wp2_with fail
  refine (worldGen_any σ n1 B (fun _ => 8) M w1 HGX1.out.st (by omega) h7 hσB HGX1.out.lt (HGX1.out.glob h7 hσB HG0.out) (by omega) (fun _ => rfl)).mono ?_
  rintro e w2 ⟨v, n2, N2, rfl, ⟨a0, an0, ac0, a1, an1, ac1, a2, an2, ac2, a3, an3, ac3, rfl, g0, g1, g2, g3⟩, hgx, hn2⟩
  have HGX2 := Lib.hid (HGX1.out.gen hgx)
  have HN2 := Lib.hid hn2
  have HV := Lib.hid (show GdL Θw B N2 w2 (Θw.fds 7) [.slice a0 an0 ac0, .slice a1 an1 ac1, .slice a2 an2 ac2, .slice a3 an3 ac3] from ⟨g0, g1, g2, g3, trivial⟩)
  clear hgx hn2 g0 g1 g2 g3 hhi hr1 hr2 HGX1
  have hst := HGX2.out.st
  have hhi := HGX2.out.hi
  go_wp2_with fail
  refine (terms_any σ n2 w2 hst (by omega)).mono ?_
  rintro e w3 ⟨v, n3, rfl, ⟨x, y, rfl, hx, hy⟩, hA8, hB8, hs8, hb8⟩
  have HGX3 := Lib.hid (HGX2.out.call hσB hb8 hs8 hA8 hB8)
  have HV3 := Lib.hid (HV.out.goes (Goes.but hb8 hσB))
  have HX := Lib.hid (And.intro hx hy)
  clear hst hhi hs8 hb8 hA8 hB8 HGX2 HV hx hy
  have hxy := HX.out
  have hkl : All w3 (w3.alloc (.cells #[.slice a0 an0 ac0, .slice a1 an1 ac1, .slice a2 an2 ac2, .slice a3 an3 ac3] 31)) := Kept.alloc _ _ _
  have htl : TB Θw B N2 (w3.alloc (.cells #[.slice a0 an0 ac0, .slice a1 an1 ac1, .slice a2 an2 ac2, .slice a3 an3 ac3] 31)) w3.heap.size 7 1 := TB.lit1 (Θ := Θw) (kd := 7) (vs := [.slice a0 an0 ac0, .slice a1 an1 ac1, .slice a2 an2 ac2, .slice a3 an3 ac3]) HGX3.out.lt (by decide) HV3.out
  obtain ⟨w4, hw4⟩ : ∃ z, z = w3.alloc (.cells #[.slice a0 an0 ac0, .slice a1 an1 ac1, .slice a2 an2 ac2, .slice a3 an3 ac3] 31) := ⟨_, rfl⟩
  obtain ⟨wb, hwb⟩ : ∃ z, z = w3.heap.size := ⟨_, rfl⟩
  rw [← hw4] at hkl htl
  rw [← hwb] at htl
  have hsz : w4.heap.size = wb + 1 := by rw [hw4, hwb]; simp
  have hkm : All w4 (w4.alloc (.cells #[.int .i64 x, .int .i64 y] 35)) := Kept.alloc _ _ _
  have htm : TB Θw B N2 (w4.alloc (.cells #[.int .i64 x, .int .i64 y] 35)) w4.heap.size 12 1 := TB.lit1 (Θ := Θw) (kd := 12) (vs := [.int .i64 x, .int .i64 y]) (Nat.le_trans HGX3.out.lt hkl.size) (by decide) ⟨⟨_, rfl, hxy.1⟩, ⟨_, rfl, hxy.2⟩, trivial⟩
  rw [hsz] at htm
  obtain ⟨w5, hw5⟩ : ∃ z, z = w4.alloc (.cells #[.int .i64 x, .int .i64 y] 35) := ⟨_, rfl⟩
  obtain ⟨tb, htb⟩ : ∃ z, z = wb + 1 := ⟨_, rfl⟩
  rw [← hw5] at hkm htm
  rw [← htb] at htm
  have HW4 := Lib.hid hw4
  have HWN := Lib.hid hwb
  have HW5 := Lib.hid hw5
  have HTN := Lib.hid htb
  have HTM := Lib.hid htm
  have HTL := Lib.hid ((Goes.all (Θ := Θw) (N := N2) hkm).tb _ _ _ htl)
  have HGX5 := Lib.hid (HGX3.out.alls hσB (hkl.trans hkm))
  clear hxy hkl htl hw4 hwb hsz hkm htm hw5 htb HV3 HX HGX3
  go_upto_region 3 with fail
  simp only [← HWN.out, ← HW4.out, ← HTN.out, ← HW5.out]
  clear HWN HW4 HTN HW5
  have hst := HGX5.out.st
  have hhi := HGX5.out.hi
  have hlt5 := hst.lt
  go_wp2_with fail
  refine (pick_any σ n3 _ 4 4 [0, 0, 1, 2] _ (hst.keep (Kept.alloc _ _ _)) (by omega) (Sl.lit_ints _ (heap_at w5 (.cells #[.int .i64 0, .int .i64 0, .int .i64 1, .int .i64 2] 3) _ rfl) rfl (by omega)) (by decide) (by decide)).mono ?_
  rintro e w6 ⟨v, n6, rfl, ⟨r, rfl, hr⟩, hA8, hB8, hs8, hb8⟩
  have hr2 : 0 ≤ r ∧ r ≤ 2 := by simp at hr; omega
  obtain ⟨cn, rfl⟩ := Int.eq_ofNat_of_zero_le hr2.1
  have hcn : cn ≤ 2 := by omega
  have hkl : All w5 (w5.alloc (.cells #[.int .i64 0, .int .i64 0, .int .i64 1, .int .i64 2] 3)) := Kept.alloc _ _ _
  have HGX6 := Lib.hid ((HGX5.out.alls hσB hkl).call hσB hb8 hs8 hA8 hB8)
  have HWB6 := Lib.hid (((Goes.all (Θ := Θw) (N := N2) hkl).trans (Goes.but hb8 hσB)).tb _ _ _ HTL.out)
  have HTB6 := Lib.hid (((Goes.all (Θ := Θw) (N := N2) hkl).trans (Goes.but hb8 hσB)).tb _ _ _ HTM.out)
  clear hst hhi hlt5 hr hr2 hA8 hB8 hs8 hb8 hkl HGX5 HTL HTM
  go_wp2_with fail
  go_loopw [18] (fun i wr => ∃ (k : Nat) (N' : Nat → Nat) (m : Nat), k ≤ cn ∧ i = .int .i64 k ∧ (∀ x, 8 ≤ N' x ∧ N' x ≤ 101 + k) ∧ GenX σ B (fun _ => 8) N' 0 (40000010 + 30000000 * k) w0 wr m ∧ TB Θw B N' wr wb 7 1 ∧ TB Θw B N' wr tb 12 1) (fun i _ => cn - (intOf i).toNat)
  case atStart => exact ⟨0, N2, n6, Nat.zero_le _, rfl, HN2.out, HGX6.out.up (by omega), HWB6.out, HTB6.out⟩
  case round =>
    obtain ⟨k, N', m, hk, rfl, hn', hgen, hwb, htb⟩ := hrel
    obtain ⟨wo, rfl⟩ : ∃ z : World, z = wr := ⟨_, rfl⟩
    have HN' := Lib.hid hn'
    have HGY := Lib.hid hgen
    have HWB := Lib.hid hwb
    have HTB := Lib.hid htb
    clear hn' hgen hwb htb
    obtain ⟨v0, vn0, vc0, v1, vn1, vc1, v2, vn2, vc2, v3, vn3, vc3, f0, f1, f2, f3, g0, g1, g2, g3⟩ := HWB.out.wld (by decide)
    by_cases hlt : k < cn
    · have hd : decide ((k : Int) < (cn : Int)) = true := by simp; omega
      have hhi := HGY.out.hi
      have HSP := Lib.hid (spoiledWorld_any σ m B N' v0 vn0 vc0 v1 vn1 vc1 v2 vn2 vc2 v3 vn3 vc3 wo HGY.out.st (by omega) hσB HGY.out.lt g0 g1 g2 g3 (fun x => (HN'.out x).1) (fun x => by have := HN'.out x; omega))
      clear g0 g1 g2 g3
      go_wp2_with fail
      refine HSP.out.mono ?_
      rintro e w7 ⟨v, m7, N7, rfl, ⟨u0, un0, uc0, u1, un1, uc1, u2, un2, uc2, u3, un3, uc3, rfl, g0, g1, g2, g3⟩, hgx, hn7⟩
      have HWB7 := Lib.hid (hgx.goes.tb _ _ _ HWB.out)
      have HTB7 := Lib.hid (hgx.goes.tb _ _ _ HTB.out)
      have HGX7 := Lib.hid (HGY.out.gen hgx)
      have HN7 := Lib.hid (show ∀ x, 8 ≤ N7 x ∧ N7 x ≤ 101 + (k + 1) from fun x => by have := HN'.out x; have := hn7 x; have := hgx.goes.le x; omega)
      obtain ⟨-, hff, q0', q1', q2', q3'⟩ := wldFin HWB7.out g0 g1 g2 g3
      obtain ⟨b0, o0, p0, b1, o1, p1, b2, o2, p2, b3, o3, p3, r0, r1, r2, r3, -⟩ := HWB7.out.wld (by decide)
      have z0 := HWB7.out.fz 0
      have z1 := HWB7.out.fz 1
      have z2 := HWB7.out.fz 2
      have z3 := HWB7.out.fz 3
      have HFF := Lib.hid (HGX7.out.fin hff (c' := 40000010 + 30000000 * (k + 1)) HWB7.out.low hσB (by omega))
      have HWB8 := Lib.hid (hff.1.tb _ _ _ HWB7.out)
      have HTB8 := Lib.hid (hff.1.tb _ _ _ HTB7.out)
      clear g0 g1 g2 g3 hgx hn7 hff q0' q1' q2' q3' HSP f0 f1 f2 f3 hhi
      go_wp2_with fail
      go_roundw
      case rel => exact ⟨k + 1, N7, m7, by omega, by go_num, HN7.out, HFF.out, HWB8.out, HTB8.out⟩
      case measure => simp [intOf]; omega
    have hd : decide ((k : Int) < (cn : Int)) = false := by simp; omega
    obtain ⟨s, hs, -⟩ := wld_of g0 g1 g2 g3 ⟨by have := HN'.out 2; omega, by have := HN'.out 3; omega, by have := HN'.out 0; omega⟩
    have hs := hs.mono (G := fun _ => True) (fun _ _ => trivial)
    obtain ⟨_, _, _, e, b0, -⟩ := g0.slice
    cases e
    obtain ⟨_, _, _, e, b1, -⟩ := g1.slice
    cases e
    obtain ⟨_, _, _, e, b2, -⟩ := g2.slice
    cases e
    obtain ⟨_, _, _, e, b3, -⟩ := g3.slice
    cases e
    have q0 := HN'.out 1
    have q1 := HN'.out 5
    have q2 := HN'.out 6
    have q3 := HN'.out 4
    have hb0 : vn0 ≤ 100000 := by omega
    have hb1 : vn1 ≤ 100000 := by omega
    have hb2 : vn2 ≤ 100000 := by omega
    have hb3 : vn3 ≤ 100000 := by omega
    obtain ⟨_, t0, tx, rfl, htx⟩ := HTB.out.cell (i := 0) (j := 0) (f := .i) (by decide) rfl
    obtain ⟨_, t1, ty, rfl, hty⟩ := HTB.out.cell (i := 0) (j := 1) (f := .i) (by decide) rfl
    have t0 : wo.cell? ⟨tb, 0, none⟩ = some (.int .i64 tx) := t0
    have t1 : wo.cell? ⟨tb, 1, none⟩ = some (.int .i64 ty) := t1
    have hgl := HGY.out.glob h7 hσB HG0.out
    have hbig : 7 < wo.heap.size := Nat.lt_of_lt_of_le (Nat.lt_trans h7 hσB) HGY.out.lt
    have HFIN := Lib.hid (fun (wx : World) (k : All wo wx) => HEND.out wx (HGY.out.kp.trans k.all))
    have M1 := Lib.hid (fun (wx : World) (k : All wo wx) => checkWorld_any v0 vn0 vc0 v1 vn1 vc1 v2 vn2 vc2 v3 vn3 vc3 s wx ((hs.keep k).places) hb0 ((hs.keep k).people) hb1 ((hs.keep k).works) hb2 ((hs.keep k).bonds) hb3 (hgl.keep k))
    have M2 := Lib.hid (fun (wx : World) (k : All wo wx) => worldFault_any v0 vn0 vc0 v1 vn1 vc1 v2 vn2 vc2 v3 vn3 vc3 s wx ((hs.keep k).places) hb0 ((hs.keep k).people) hb1 ((hs.keep k).works) hb2 ((hs.keep k).bonds) hb3 (hgl.keep k))
    have M3 := Lib.hid (fun (wx : World) (_ : All wo wx) => checkTerms_any tx ty wx ⟨htx, hty⟩)
    have M4 := Lib.hid (fun (wx : World) (_ : All wo wx) => termsFault_any tx ty wx)
    have M5 := Lib.hid (fun (wx : World) (k : All wo wx) => known_any wx (hgl.keep k) (Nat.lt_of_lt_of_le hbig k.size))
    generalize worldF s = wz at M1 M2
    generalize termsF tx ty = tz at M3 M4
    have HC := Lib.hid (And.intro f0 (And.intro f1 (And.intro f2 (And.intro f3 (And.intro t0 t1)))))
    clear g0 g1 g2 g3 hs hgl hbig htx hty b0 b1 b2 b3 q0 q1 q2 q3 hb0 hb1 hb2 hb3 HWB HTB HGY HN'
    go_wp2_with fail
    go_region_held3 (fun w' => w'.cell? ⟨wb, 0, none⟩ = some (.slice v0 vn0 vc0) ∧ w'.cell? ⟨wb, 1, none⟩ = some (.slice v1 vn1 vc1) ∧ w'.cell? ⟨wb, 2, none⟩ = some (.slice v2 vn2 vc2) ∧ w'.cell? ⟨wb, 3, none⟩ = some (.slice v3 vn3 vc3) ∧ w'.cell? ⟨tb, 0, none⟩ = some (.int .i64 tx) ∧ w'.cell? ⟨tb, 1, none⟩ = some (.int .i64 ty)) (first | go_keep | exact ⟨by assumption, by assumption, by assumption, by assumption, by assumption, by assumption⟩) (first | (go_at_call 15; refine (M1.out _ ((by repeat (first | exact Kept.refl _ _ | refine Kept.then_drew ?_ | refine Kept.then_drewN ?_ _ | refine Kept.then_alloc ?_ _)) : All wo _)).mono ?_; rintro e wa ⟨rfl, hwa'⟩; have hwa : All wo wa := Kept.trans ((by repeat (first | exact Kept.refl _ _ | refine Kept.then_drew ?_ | refine Kept.then_drewN ?_ _ | refine Kept.then_alloc ?_ _)) : All wo _) hwa'; have fwa0 := hwa.cell HC.out.1 trivial; have fwa1 := hwa.cell HC.out.2.1 trivial; have fwa2 := hwa.cell HC.out.2.2.1 trivial; have fwa3 := hwa.cell HC.out.2.2.2.1 trivial; have fwa4 := hwa.cell HC.out.2.2.2.2.1 trivial; have fwa5 := hwa.cell HC.out.2.2.2.2.2 trivial) | (go_at_call 16; refine (M2.out _ (hwa.trans (by repeat (first | exact Kept.refl _ _ | refine Kept.then_drew ?_ | refine Kept.then_drewN ?_ _ | refine Kept.then_alloc ?_ _)))).mono ?_; rintro e wbb ⟨rfl, hwbb'⟩; have hwbb : All wo wbb := Kept.trans (hwa.trans (by repeat (first | exact Kept.refl _ _ | refine Kept.then_drew ?_ | refine Kept.then_drewN ?_ _ | refine Kept.then_alloc ?_ _))) hwbb'; have fwbb0 := hwbb.cell HC.out.1 trivial; have fwbb1 := hwbb.cell HC.out.2.1 trivial; have fwbb2 := hwbb.cell HC.out.2.2.1 trivial; have fwbb3 := hwbb.cell HC.out.2.2.2.1 trivial; have fwbb4 := hwbb.cell HC.out.2.2.2.2.1 trivial; have fwbb5 := hwbb.cell HC.out.2.2.2.2.2 trivial) | (go_at_call 17; refine (M3.out _ (hwbb.trans (by repeat (first | exact Kept.refl _ _ | refine Kept.then_drew ?_ | refine Kept.then_drewN ?_ _ | refine Kept.then_alloc ?_ _)))).mono ?_; rintro e wcc ⟨rfl, hwcc'⟩; have hwcc : All wo wcc := Kept.trans (hwbb.trans (by repeat (first | exact Kept.refl _ _ | refine Kept.then_drew ?_ | refine Kept.then_drewN ?_ _ | refine Kept.then_alloc ?_ _))) hwcc'; have fwcc0 := hwcc.cell HC.out.1 trivial; have fwcc1 := hwcc.cell HC.out.2.1 trivial; have fwcc2 := hwcc.cell HC.out.2.2.1 trivial; have fwcc3 := hwcc.cell HC.out.2.2.2.1 trivial; have fwcc4 := hwcc.cell HC.out.2.2.2.2.1 trivial; have fwcc5 := hwcc.cell HC.out.2.2.2.2.2 trivial) | (go_at_call 18; refine (M4.out _ (hwcc.trans (by repeat (first | exact Kept.refl _ _ | refine Kept.then_drew ?_ | refine Kept.then_drewN ?_ _ | refine Kept.then_alloc ?_ _)))).mono ?_; rintro e wd ⟨rfl, hwd'⟩; have hwd : All wo wd := Kept.trans (hwcc.trans (by repeat (first | exact Kept.refl _ _ | refine Kept.then_drew ?_ | refine Kept.then_drewN ?_ _ | refine Kept.then_alloc ?_ _))) hwd'; have fwd0 := hwd.cell HC.out.1 trivial; have fwd1 := hwd.cell HC.out.2.1 trivial; have fwd2 := hwd.cell HC.out.2.2.1 trivial; have fwd3 := hwd.cell HC.out.2.2.2.1 trivial; have fwd4 := hwd.cell HC.out.2.2.2.2.1 trivial; have fwd5 := hwd.cell HC.out.2.2.2.2.2 trivial) | (go_at_call 19; refine (M5.out _ (hwd.trans (by repeat (first | exact Kept.refl _ _ | refine Kept.then_drew ?_ | refine Kept.then_drewN ?_ _ | refine Kept.then_alloc ?_ _)))).mono ?_; rintro e we ⟨rfl, hwe'⟩; have hwe : All wo we := Kept.trans (hwd.trans (by repeat (first | exact Kept.refl _ _ | refine Kept.then_drew ?_ | refine Kept.then_drewN ?_ _ | refine Kept.then_alloc ?_ _))) hwe'; have fwe0 := hwe.cell HC.out.1 trivial; have fwe1 := hwe.cell HC.out.2.1 trivial; have fwe2 := hwe.cell HC.out.2.2.1 trivial; have fwe3 := hwe.cell HC.out.2.2.2.1 trivial; have fwe4 := hwe.cell HC.out.2.2.2.2.1 trivial; have fwe5 := hwe.cell HC.out.2.2.2.2.2 trivial))
    go_wp2_with fail
    go_ret
    exact ⟨rfl, HFIN.out _ hwe⟩
end Go.Proofs.YtgobnlgmbplggaaGreatDoor
