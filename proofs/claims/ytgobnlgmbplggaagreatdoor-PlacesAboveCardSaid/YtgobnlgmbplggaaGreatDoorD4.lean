/- SpoiledWorld. -/
import Derived.Test.YtgobnlgmbplggaaGreatDoorD3
namespace Go.Proofs.YtgobnlgmbplggaaGreatDoor
open Go.RowKit

set_option maxRecDepth 100000 in
set_option maxHeartbeats 51200000 in
theorem spoiledWorld_any (σ : St) (n B : Nat) (N : Nat → Nat) (s0 : Option Addr) (l0 q0 : Nat) (s1 : Option Addr) (l1 q1 : Nat) (s2 : Option Addr) (l2 q2 : Nat) (s3 : Option Addr) (l3 q3 : Nat) (w0 : World) (hs : Str σ w0 n) (hn : n ≤ 4611686018400000000) (hσ : σ.b < B) (hB : B ≤ w0.heap.size)
    (h0 : Gd Θw B N w0 (.sl 1) (.slice s0 l0 q0)) (h1 : Gd Θw B N w0 (.sl 5) (.slice s1 l1 q1)) (h2 : Gd Θw B N w0 (.sl 6) (.slice s2 l2 q2)) (h3 : Gd Θw B N w0 (.sl 4) (.slice s3 l3 q3)) (hlo : ∀ x, 8 ≤ N x) (hhi : ∀ x, N x ≤ 900) :
    Calls Tryz.prog 14 #[.pointer (some ⟨σ.b, 0, none⟩), .agg #[.slice s0 l0 q0, .slice s1 l1 q1, .slice s2 l2 q2, .slice s3 l3 q3]] w0 fun e w' => ∃ v m N', e = .returned v ∧ WldG B N' w' v ∧ GenX σ B N N' n 30000000 w0 w' m ∧ ∀ x, N' x ≤ N x + 1 := by
  have hk1 : All w0 (w0.alloc (.cells #[.slice s0 l0 q0, .slice s1 l1 q1, .slice s2 l2 q2, .slice s3 l3 q3] 31)) := Kept.alloc _ _ _
  have ha1 : TB Θw B N (w0.alloc (.cells #[.slice s0 l0 q0, .slice s1 l1 q1, .slice s2 l2 q2, .slice s3 l3 q3] 31)) w0.heap.size 7 1 := TB.lit1 (Θ := Θw) (kd := 7) hB (by decide) ⟨h0, h1, h2, h3, trivial⟩
  have hk2 : All (w0.alloc (.cells #[.slice s0 l0 q0, .slice s1 l1 q1, .slice s2 l2 q2, .slice s3 l3 q3] 31)) ((w0.alloc (.cells #[.slice s0 l0 q0, .slice s1 l1 q1, .slice s2 l2 q2, .slice s3 l3 q3] 31)).alloc (.cells #[.slice none 0 0, .slice none 0 0, .slice none 0 0, .slice none 0 0] 31)) := Kept.alloc _ _ _
  have ha2 : TB Θw B N ((w0.alloc (.cells #[.slice s0 l0 q0, .slice s1 l1 q1, .slice s2 l2 q2, .slice s3 l3 q3] 31)).alloc (.cells #[.slice none 0 0, .slice none 0 0, .slice none 0 0, .slice none 0 0] 31)) (w0.alloc (.cells #[.slice s0 l0 q0, .slice s1 l1 q1, .slice s2 l2 q2, .slice s3 l3 q3] 31)).heap.size 7 1 := TB.lit1 (Θ := Θw) (kd := 7) (Nat.le_trans hB hk1.size) (by decide) ⟨Or.inl ⟨_, rfl⟩, Or.inl ⟨_, rfl⟩, Or.inl ⟨_, rfl⟩, Or.inl ⟨_, rfl⟩, trivial⟩
  have hbs : (w0.alloc (.cells #[.slice s0 l0 q0, .slice s1 l1 q1, .slice s2 l2 q2, .slice s3 l3 q3] 31)).heap.size = w0.heap.size + 1 := by simp
  rw [hbs] at ha2
  obtain ⟨w1, hw1⟩ : ∃ z, z = (w0.alloc (.cells #[.slice s0 l0 q0, .slice s1 l1 q1, .slice s2 l2 q2, .slice s3 l3 q3] 31)).alloc (.cells #[.slice none 0 0, .slice none 0 0, .slice none 0 0, .slice none 0 0] 31) := ⟨_, rfl⟩
  have hgo1 := (Goes.all hk2).tb _ _ _ ha1
  have hk := hk1.trans hk2
  have e0 := heap_old (.cells #[.slice none 0 0, .slice none 0 0, .slice none 0 0, .slice none 0 0] 31) (heap_at w0 (.cells #[.slice s0 l0 q0, .slice s1 l1 q1, .slice s2 l2 q2, .slice s3 l3 q3] 31) _ rfl)
  rw [← hw1] at ha2 hgo1 hk e0
  obtain ⟨wb, hwb⟩ : ∃ z, z = w0.heap.size := ⟨_, rfl⟩
  rw [← hwb] at ha2 hgo1 e0
  have HW1 := Lib.hid hw1
  have HWN := Lib.hid hwb
  have HWB := Lib.hid hgo1
  have HRB := Lib.hid ha2
  have HK := Lib.hid hk
  have HCP := Lib.hid (copyWorld_any σ n B N s0 l0 q0 s1 l1 q1 s2 l2 q2 s3 l3 q3 w1 (hs.keep hk) hσ (Nat.le_trans hB hk.size) (h0.goes (Goes.all hk)) (h1.goes (Goes.all hk)) (h2.goes (Goes.all hk)) (h3.goes (Goes.all hk)) (fun x => Nat.le_trans (hhi x) (by decide)))
  have HBW := Lib.hid (Nat.le_trans hB hk.size)
  have c0 := cell_at (i := 0) e0 rfl
  have c1 := cell_at (i := 1) e0 rfl
  have c2 := cell_at (i := 2) e0 rfl
  have c3 := cell_at (i := 3) e0 rfl
  clear ha1 ha2 hk1 hk2 hgo1 hk hw1 hwb hbs h0 h1 h2 h3 hs e0
  go_enter Tryz.func14, Tryz.ntmps14
  go_upto_region 1 with fail
  simp only [← HWN.out, ← HW1.out]
  go_wp2_with fail
  refine HCP.out.mono ?_
  rintro e w2 ⟨v, m2, rfl, ⟨v0, y0, t0, v1, y1, t1, v2, y2, t2, v3, y3, t3, rfl, g0, g1, g2, g3⟩, hgen⟩
  have HWB2 := Lib.hid (hgen.goes.tb _ _ _ HWB.out)
  have HRB2 := Lib.hid (hgen.goes.tb _ _ _ HRB.out)
  obtain ⟨b0, o0, p0, b1, o1, p1, b2, o2, p2, b3, o3, p3, d0, d1, d2, d3, -⟩ := HWB2.out.wld (by decide)
  have z0 := HWB2.out.fz 0
  have z1 := HWB2.out.fz 1
  have z2 := HWB2.out.fz 2
  have z3 := HWB2.out.fz 3
  obtain ⟨-, ⟨hset, hks⟩, e0, e1, e2, e3⟩ := wldFin HWB2.out g0 g1 g2 g3
  obtain ⟨wA, hwA⟩ : ∃ z, z = w2.setCells wb 0 [.slice v0 y0 t0, .slice v1 y1 t1, .slice v2 y2 t2, .slice v3 y3 t3] := ⟨_, rfl⟩
  have HW3 := Lib.hid (show wA = (((w2.setCell ⟨wb, 0, none⟩ (.slice v0 y0 t0)).setCell ⟨wb, 1, none⟩ (.slice v1 y1 t1)).setCell ⟨wb, 2, none⟩ (.slice v2 y2 t2)).setCell ⟨wb, 3, none⟩ (.slice v3 y3 t3) from hwA)
  rw [← hwA] at hset hks
  rw [← HW3.out] at e0 e1 e2 e3
  have hwl := HWB2.out.low
  have HGNA := Lib.hid (show GenX σ B N N n 10000000 w0 wA m2 from ⟨hgen.st.kept hks (fun j hj => by omega), hgen.lo, hgen.hi, ((HK.out.mono (fun _ _ => trivial)).trans hgen.kp).trans2 hks (fun x _ hx => by have := hx.1; omega), ((Goes.all HK.out).trans hgen.goes).trans hset, Nat.le_trans HBW.out (Nat.le_trans hgen.kp.size hks.size)⟩)
  have HWBA := Lib.hid (hset.tb _ _ _ HWB2.out)
  have HRBA := Lib.hid (hset.tb _ _ _ HRB2.out)
  have HG0A := Lib.hid (g0.goes hset)
  have HG1A := Lib.hid (g1.goes hset)
  have HNS := Lib.hid (show wb ≠ σ.b by omega)
  have HCA0 := Lib.hid e0
  have HCA1 := Lib.hid e1
  have hm2 : m2 ≤ n + 10000000 := hgen.hi
  clear g0 g1 g2 g3 hset hks hwA hgen c0 c1 c2 c3 hwl e1 e2 e3
  go_upto_region 2 with fail
  clear z0 z1 z2 z3 d0 d1 d2 d3
  simp only [← HW3.out]

  go_cut [16] (fun t wx => ∃ (b : Bool) (m : Nat), t = .bool b ∧ (b = true → 0 < y0) ∧ But σ.b wA wx ∧ Str σ wx m ∧ m2 ≤ m ∧ m ≤ m2 + 1)
  case first =>
    have hst := HGNA.out.st
    by_cases hy : y0 = 0
    · have hd : decide ((0 : Int) < (y0 : Int)) = false := by simp; omega
      go_wp2_with fail
      go_meet
      exact ⟨false, m2, rfl, (fun h => by cases h), Kept.refl _ _, hst, Nat.le_refl _, by omega⟩
    · have hd : decide ((0 : Int) < (y0 : Int)) = true := by simp; omega
      go_wp2_with fail
      refine (flip_any σ m2 4 _ hst (by omega) (by omega) (by omega)).mono ?_
      rintro e w3 ⟨v, m3, rfl, ⟨b, rfl⟩, hA3, hB3, hs3, hb3⟩
      have HB3 := Lib.hid hb3
      clear hb3
      go_wp2_with fail
      go_meet
      exact ⟨b, m3, rfl, fun _ => by omega, HB3.out, hs3, by omega, by omega⟩
  case rest =>
    clear e0
    obtain ⟨b, m3, rfl, hby, hbt, hst3, hm31, hm32⟩ := hcut
    obtain ⟨w3, rfl⟩ : ∃ z : World, z = wc := ⟨_, rfl⟩
    have HWB3 := Lib.hid ((Goes.but hbt hσ).tb _ _ _ HWBA.out)
    have HRB3 := Lib.hid ((Goes.but hbt hσ).tb _ _ _ HRBA.out)
    have HG0 := Lib.hid (HG0A.out.goes (Goes.but hbt hσ))
    have HG1 := Lib.hid (HG1A.out.goes (Goes.but hbt hσ))
    have HC0 := Lib.hid (hbt.cell HCA0.out HNS.out)
    have HC1 := Lib.hid (hbt.cell HCA1.out HNS.out)
    have HGN3 := Lib.hid (show GenX σ B N N n 10000001 w0 w3 m3 from ⟨hst3, by have := HGNA.out.lo; omega, by have := HGNA.out.hi; omega, HGNA.out.kp.trans2 hbt (fun _ _ h => h.2), HGNA.out.goes.trans (Goes.but hbt hσ), Nat.le_trans HGNA.out.lt hbt.size⟩)
    have HST := Lib.hid hst3
    have HLT := Lib.hid HGN3.out.lt
    clear hbt hst3 HWBA HRBA HG0A HG1A HCA0 HCA1
    have hm3 : m3 ≤ n + 10000001 := HGN3.out.hi
    have hy0 : y0 ≤ 1000 := by
      obtain ⟨a', n', c', e, h, -⟩ := HG0.out.slice
      cases e
      have := hhi 1
      omega
    have hy1 : y1 ≤ 1000 := by
      obtain ⟨a', n', c', e, h, -⟩ := HG1.out.slice
      cases e
      have := hhi 5
      omega
    cases b with
    | true =>
      have hy := hby rfl
      obtain ⟨a', n', c', e, hlN, hlc, hq⟩ := HG0.out.slice
      cases e
      obtain ⟨g0, rfl, htb⟩ := hq hy
      have HGX := Lib.hid htb
      have HCX := HC0
      clear hby hq htb hlN HG0 HC0 HC1 HG1
      go_upto_region 3 with fail
      refine wp_region_ty 8 (by kernel_rfl) (by kernel_rfl) (RT Θw σ B N N (fun w => w.cell? ⟨wb, 0, none⟩ = some (.slice (some ⟨g0, 0, none⟩) y0 t0)) w3 m3 999 999)
        (DL [QIs (.pointer (some ⟨wb, 0, none⟩)), QIs (.slice (some ⟨g0, 0, none⟩) y0 t0), QIs (.pointer (some ⟨σ.b, 0, none⟩)), QIs (.pointer (some ⟨wb, 0, none⟩)), QIs (.slice (some ⟨g0, 0, none⟩) y0 t0), QIs (.int .i64 (y0 : Int)), PR (0) (((y0 : Nat) : Int) - 1), PE Θw B N 1]) (fun w w' => Goes Θw B N w N w')
        (DL.keep (by simp only [List.forall_mem_cons, List.not_mem_nil, false_implies, implies_true, and_true]; exact ⟨QIs.stays' _, QIs.stays' _, QIs.stays' _, QIs.stays' _, QIs.stays' _, QIs.stays' _, PR.stays _ _, PE.stays _⟩)) ?_ ?_ ?_
      · exact ⟨⟨m3, HST.out.keep (Kept.drew _ _), Nat.le_refl _, by omega⟩, Kept.drew _ _, HLT.out, by rw [if_neg (by decide)]; exact Goes.all (Kept.drew _ _), fun h => (by cases h), (Kept.drew (fun _ => True) _).cell HCX.out trivial⟩
      · intro i o ho hi kq L a' wx hkq hrt hL hdf hts hoth hld hdeps
        have hkz : kq < 8 := hkq
        have hz : i = 0 ∨ i = 1 ∨ i = 2 ∨ i = 3 ∨ i = 4 ∨ i = 5 ∨ i = 6 ∨ i = 7 := by have : i < 8 := hi; omega
        rcases hz with rfl | rfl | rfl | rfl | rfl | rfl | rfl | rfl
        · obtain rfl := Option.some.inj ho
          have e : a'.tmps.getD 3 undef = .pointer (some ⟨wb, 0, none⟩) := tmp_of ((hoth 3 (by decide)).trans rfl)
          clear hoth hdeps hdf hts ho hld
          refine wp_via (fun K' hK => ?_)
          have HK := Lib.hid hK
          clear hK
          go_simp
          exact HK.out _ _ ⟨_, rfl, hrt.same (by decide), Goes.refl _ _ _ _, fun _ => rfl⟩
        · obtain rfl := Option.some.inj ho
          have e : a'.tmps.getD 17 undef = .pointer (some ⟨wb, 0, none⟩) := hdeps 0 (by decide) 17 rfl
          have c0 := hrt.ex
          clear hoth hdeps hdf hts ho hld
          refine wp_via (fun K' hK => ?_)
          have HK := Lib.hid hK
          clear hK
          go_simp
          exact HK.out _ _ ⟨_, rfl, hrt.same (by decide), Goes.refl _ _ _ _, fun _ => rfl⟩
        · obtain rfl := Option.some.inj ho
          have e : a'.tmps.getD 0 undef = .pointer (some ⟨σ.b, 0, none⟩) := tmp_of ((hoth 0 (by decide)).trans rfl)
          clear hoth hdeps hdf hts ho hld
          refine wp_via (fun K' hK => ?_)
          have HK := Lib.hid hK
          clear hK
          go_simp
          exact HK.out _ _ ⟨_, rfl, hrt.same (by decide), Goes.refl _ _ _ _, fun _ => rfl⟩
        · obtain rfl := Option.some.inj ho
          have e : a'.tmps.getD 3 undef = .pointer (some ⟨wb, 0, none⟩) := tmp_of ((hoth 3 (by decide)).trans rfl)
          clear hoth hdeps hdf hts ho hld
          refine wp_via (fun K' hK => ?_)
          have HK := Lib.hid hK
          clear hK
          go_simp
          exact HK.out _ _ ⟨_, rfl, hrt.same (by decide), Goes.refl _ _ _ _, fun _ => rfl⟩
        · obtain rfl := Option.some.inj ho
          have e : a'.tmps.getD 20 undef = .pointer (some ⟨wb, 0, none⟩) := hdeps 3 (by decide) 20 rfl
          have c0 := hrt.ex
          clear hoth hdeps hdf hts ho hld
          refine wp_via (fun K' hK => ?_)
          have HK := Lib.hid hK
          clear hK
          go_simp
          exact HK.out _ _ ⟨_, rfl, hrt.same (by decide), Goes.refl _ _ _ _, fun _ => rfl⟩
        · obtain rfl := Option.some.inj ho
          have e : a'.tmps.getD 21 undef = .slice (some ⟨g0, 0, none⟩) y0 t0 := hdeps 4 (by decide) 21 rfl
          clear hoth hdeps hdf hts ho hld
          refine wp_via (fun K' hK => ?_)
          have HK := Lib.hid hK
          clear hK
          go_simp
          exact HK.out _ _ ⟨_, rfl, hrt.same (by decide), Goes.refl _ _ _ _, fun _ => rfl⟩
        · obtain rfl := Option.some.inj ho
          have e0 : a'.tmps.getD 19 undef = .pointer (some ⟨σ.b, 0, none⟩) := hdeps 2 (by decide) 19 rfl
          have e1 : a'.tmps.getD 22 undef = .int .i64 (y0 : Int) := hdeps 5 (by decide) 22 rfl
          obtain ⟨m, hst, hm1, hm2⟩ := hrt.st
          clear hoth hdeps hdf hts ho hld
          refine wp_via (fun K' hK => ?_)
          have HK := Lib.hid hK
          clear hK
          go_simp
          refine (next_any σ m y0 wx hst (by omega) (by omega) (by omega)).mono ?_
          rintro e w2 ⟨v, m2, rfl, ⟨r, rfl, hr1, hr2⟩, hA, hB, hs2, hb2⟩
          exact HK.out _ _ ⟨_, rfl, hrt.call (by decide) hm1 hm2 hA hB (by decide) hs2 hb2 hσ (hb2.cell hrt.ex HNS.out), Goes.but hb2 hσ, fun _ => ⟨r, rfl, by omega, by omega⟩⟩
        · obtain rfl := Option.some.inj ho
          have e : a'.tmps.getD 18 undef = .slice (some ⟨g0, 0, none⟩) y0 t0 := hdeps 1 (by decide) 18 rfl
          obtain ⟨xi, x, xl, xh⟩ : ∃ z : Int, a'.tmps.getD 23 undef = .int .i64 z ∧ 0 ≤ z ∧ z ≤ ((y0 : Nat) : Int) - 1 := hdeps 6 (by decide) 23 rfl
          obtain ⟨xk, rfl⟩ := Int.eq_ofNat_of_zero_le xl
          have x2 : (xk : Int) < (y0 : Int) := by omega
          have x3 : (0 : Int) ≤ (xk : Int) := by omega
          clear hoth hdeps hdf hts ho hld
          refine wp_via (fun K' hK => ?_)
          have HK := Lib.hid hK
          clear hK
          go_simp
          exact HK.out _ _ ⟨_, rfl, hrt.same (by decide), Goes.refl _ _ _ _, fun _ => ⟨_, xk, _, rfl, by have := hlc; omega, (hrt.goes (fun _ => Nat.le_refl _)).tb _ _ _ HGX.out⟩⟩
      · intro L wx f hrt hdl
        obtain ⟨pqb, pqi, pqm, pq, pql, pqt⟩ : ∃ b i m, f 24 = .pointer (some ⟨b, i * 2, none⟩) ∧ i < m ∧ TB Θw B N wx b 1 m := hdl 7 24 (by decide) rfl
        rw [show dsts _ _ = [17, 18, 19, 20, 21, 22, 23, 24] from by kernel_rfl]
        simp only [List.map_cons, List.map_nil, puts, Act.put, pq]
        generalize f 17 = f17
        generalize f 18 = f18
        generalize f 19 = f19
        generalize f 20 = f20
        generalize f 21 = f21
        generalize f 22 = f22
        generalize f 23 = f23
        simp only [List.setIfInBounds_toArray, List.set_cons_zero, List.set_cons_succ]
        clear hdl pq f
        obtain ⟨mz, hstz, hmz1, hmz2⟩ := hrt.st
        have hgoz := Lib.hid (hrt.goes (fun _ => Nat.le_refl _))
        have hkpz := Lib.hid hrt.kp
        have hltz := Lib.hid hrt.lt
        have hstz := Lib.hid hstz
        have hexz := Lib.hid hrt.ex
        clear hrt
        have HPQ := Lib.hid pqt
        have HWB4 := Lib.hid (hgoz.out.tb _ _ _ HWB3.out)
        have HRB4 := Lib.hid (hgoz.out.tb _ _ _ HRB3.out)
        have HGN4 := Lib.hid (show GenX σ B N N n 10001000 w0 wx mz from ⟨hstz.out, by have := HGN3.out.lo; omega, by omega, HGN3.out.kp.trans hkpz.out, HGN3.out.goes.trans hgoz.out, hltz.out⟩)
        have HST := hstz
        have HLT := hltz
        obtain ⟨w4, rfl⟩ : ∃ z : World, z = wx := ⟨_, rfl⟩
        obtain ⟨m4, rfl⟩ : ∃ z : Nat, z = mz := ⟨_, rfl⟩
        clear pqt
        go_upto_region 4 with fail
        refine wp_region_ty 25 (by kernel_rfl) (by kernel_rfl) (RT Θw σ B N N (fun _ => True) w4 m4 999 999)
          (DL [QIs (.pointer (some ⟨pqb, pqi * 2, none⟩)), QIs (.pointer (some ⟨pqb, pqi * 2, none⟩)), QIs (.pointer (some ⟨σ.b, 0, none⟩)), QIs (.pointer (some ⟨pqb, pqi * 2, none⟩)), QIs (.pointer (some ⟨pqb, pqi * 2, none⟩)), QIs (.pointer (some ⟨pqb, pqi * 2, none⟩)), PG Θw B N .s, PT Θw B N 0 4, PG Θw B N .s, QIs (.pointer (some ⟨σ.b, 0, none⟩)), QIs (.pointer (some ⟨pqb, pqi * 2, none⟩)), QIs (.pointer (some ⟨pqb, pqi * 2, none⟩)), QIs (.pointer (some ⟨pqb, pqi * 2 + 1, none⟩)), PG Θw B N .s, QIs (.pointer (some ⟨pqb, pqi * 2, none⟩)), QIs (.pointer (some ⟨pqb, pqi * 2, none⟩)), QIs (.pointer (some ⟨pqb, pqi * 2, none⟩)), PG Θw B N .s, PT Θw B N 0 6, PG Θw B N .s, QIs (.pointer (some ⟨pqb, pqi * 2, none⟩)), QIs (.pointer (some ⟨pqb, pqi * 2, none⟩)), PN, QIs (.pointer (some ⟨pqb, pqi * 2, none⟩)), QIs (.pointer (some ⟨pqb, pqi * 2 + 1, none⟩))]) (fun w w' => Goes Θw B N w N w')
          (DL.keep (by simp only [List.forall_mem_cons, List.not_mem_nil, false_implies, implies_true, and_true]; exact ⟨QIs.stays' _, QIs.stays' _, QIs.stays' _, QIs.stays' _, QIs.stays' _, QIs.stays' _, PG.stays _, PT.stays _ _, PG.stays _, QIs.stays' _, QIs.stays' _, QIs.stays' _, QIs.stays' _, PG.stays _, QIs.stays' _, QIs.stays' _, QIs.stays' _, PG.stays _, PT.stays _ _, PG.stays _, QIs.stays' _, QIs.stays' _, PN.stays, QIs.stays' _, QIs.stays' _⟩)) ?_ ?_ ?_
        · exact ⟨⟨m4, HST.out.keep (Kept.drew _ _), Nat.le_refl _, by omega⟩, Kept.drew _ _, HLT.out, by rw [if_neg (by decide)]; exact Goes.all (Kept.drew _ _), fun h => (by cases h), trivial⟩
        · intro i o ho hi kq L a' wx hkq hrt hL hdf hts hoth hld hdeps
          have hkz : kq < 25 := hkq
          have hz : i = 0 ∨ i = 1 ∨ i = 2 ∨ i = 3 ∨ i = 4 ∨ i = 5 ∨ i = 6 ∨ i = 7 ∨ i = 8 ∨ i = 9 ∨ i = 10 ∨ i = 11 ∨ i = 12 ∨ i = 13 ∨ i = 14 ∨ i = 15 ∨ i = 16 ∨ i = 17 ∨ i = 18 ∨ i = 19 ∨ i = 20 ∨ i = 21 ∨ i = 22 ∨ i = 23 ∨ i = 24 := by have : i < 25 := hi; omega
          rcases hz with rfl | rfl | rfl | rfl | rfl | rfl | rfl | rfl | rfl | rfl | rfl | rfl | rfl | rfl | rfl | rfl | rfl | rfl | rfl | rfl | rfl | rfl | rfl | rfl | rfl
          · obtain rfl := Option.some.inj ho
            have e : a'.tmps.getD 5 undef = .pointer (some ⟨pqb, pqi * 2, none⟩) := tmp_of ((hoth 5 (by decide)).trans rfl)
            clear hoth hdeps hdf hts ho hld
            refine wp_via (fun K' hK => ?_)
            have HK := Lib.hid hK
            clear hK
            go_simp
            exact HK.out _ _ ⟨_, rfl, hrt.same (by decide), Goes.refl _ _ _ _, fun _ => rfl⟩
          · obtain rfl := Option.some.inj ho
            have e : a'.tmps.getD 5 undef = .pointer (some ⟨pqb, pqi * 2, none⟩) := tmp_of ((hoth 5 (by decide)).trans rfl)
            clear hoth hdeps hdf hts ho hld
            refine wp_via (fun K' hK => ?_)
            have HK := Lib.hid hK
            clear hK
            go_simp
            exact HK.out _ _ ⟨_, rfl, hrt.same (by decide), Goes.refl _ _ _ _, fun _ => rfl⟩
          · obtain rfl := Option.some.inj ho
            have e : a'.tmps.getD 0 undef = .pointer (some ⟨σ.b, 0, none⟩) := tmp_of ((hoth 0 (by decide)).trans rfl)
            clear hoth hdeps hdf hts ho hld
            refine wp_via (fun K' hK => ?_)
            have HK := Lib.hid hK
            clear hK
            go_simp
            exact HK.out _ _ ⟨_, rfl, hrt.same (by decide), Goes.refl _ _ _ _, fun _ => rfl⟩
          · obtain rfl := Option.some.inj ho
            have e : a'.tmps.getD 5 undef = .pointer (some ⟨pqb, pqi * 2, none⟩) := tmp_of ((hoth 5 (by decide)).trans rfl)
            clear hoth hdeps hdf hts ho hld
            refine wp_via (fun K' hK => ?_)
            have HK := Lib.hid hK
            clear hK
            go_simp
            exact HK.out _ _ ⟨_, rfl, hrt.same (by decide), Goes.refl _ _ _ _, fun _ => rfl⟩
          · obtain rfl := Option.some.inj ho
            have e : a'.tmps.getD 28 undef = .pointer (some ⟨pqb, pqi * 2, none⟩) := hdeps 3 (by decide) 28 rfl
            clear hoth hdeps hdf hts ho hld
            refine wp_via (fun K' hK => ?_)
            have HK := Lib.hid hK
            clear hK
            go_simp
            exact HK.out _ _ ⟨_, rfl, hrt.same (by decide), Goes.refl _ _ _ _, fun _ => rfl⟩
          · obtain rfl := Option.some.inj ho
            have e : a'.tmps.getD 29 undef = .pointer (some ⟨pqb, pqi * 2, none⟩) := hdeps 4 (by decide) 29 rfl
            clear hoth hdeps hdf hts ho hld
            refine wp_via (fun K' hK => ?_)
            have HK := Lib.hid hK
            clear hK
            go_simp
            exact HK.out _ _ ⟨_, rfl, hrt.same (by decide), Goes.refl _ _ _ _, fun _ => rfl⟩
          · obtain rfl := Option.some.inj ho
            have e : a'.tmps.getD 30 undef = .pointer (some ⟨pqb, pqi * 2, none⟩) := hdeps 5 (by decide) 30 rfl
            obtain ⟨s0, c0, z0⟩ := ((hrt.goes (fun _ => Nat.le_refl _)).tb _ _ _ HPQ.out).ldS (i := pqi) (j := 0) (o := pqi * 2) pql rfl (rfl)
            clear hoth hdeps hdf hts ho hld
            refine wp_via (fun K' hK => ?_)
            have HK := Lib.hid hK
            clear hK
            go_simp
            exact HK.out _ _ ⟨_, rfl, hrt.same (by decide), Goes.refl _ _ _ _, fun _ => ⟨_, rfl, z0⟩⟩
          · obtain rfl := Option.some.inj ho
            obtain ⟨e0s, e0, e0z⟩ : ∃ s : ByteArray, a'.tmps.getD 31 undef = .string s ∧ s.size ≤ 200 := hdeps 6 (by decide) 31 rfl
            have e0q : a'.tmps[31]?.getD undef = .string e0s := by rw [← Array.getD_eq_getD_getElem?]; exact e0
            clear hoth hdeps hdf hts ho hld
            refine wp_via (fun K' hK => ?_)
            have HK := Lib.hid hK
            clear hK
            go_simp
            exact HK.out _ _ ⟨_, rfl, hrt.all (by decide) (Kept.alloc _ _ _) hσ (trivial), Goes.all (Kept.alloc _ _ _), fun _ => ⟨_, rfl, TB.litN (kd := 0) (vs := [.string e0s, .string ⟨#[]⟩, .string ⟨#[65]⟩, .string ⟨#[122, 111, 111]⟩]) hrt.lt rfl rfl ⟨⟨_, rfl, e0z⟩, ⟨_, rfl, by decide⟩, ⟨_, rfl, by decide⟩, ⟨_, rfl, by decide⟩, trivial⟩⟩⟩
          · obtain rfl := Option.some.inj ho
            have e0 : a'.tmps.getD 27 undef = .pointer (some ⟨σ.b, 0, none⟩) := hdeps 2 (by decide) 27 rfl
            obtain ⟨e1b, e1, e1t⟩ : ∃ g, a'.tmps.getD 32 undef = .slice (some ⟨g, 0, none⟩) 4 4 ∧ TB Θw B N wx g 0 4 := hdeps 7 (by decide) 32 rfl
            obtain ⟨m, hst, hm1, hm2⟩ := hrt.st
            clear hoth hdeps hdf hts ho hld
            refine wp_via (fun K' hK => ?_)
            have HK := Lib.hid hK
            clear hK
            go_simp
            refine (some10T_any hst (by omega) hσ e1t (by decide) (by decide)).mono ?_
            rintro e w2 ⟨v, m2, rfl, ⟨r, rfl, hr⟩, hA, hB, hs2, hb2⟩
            exact HK.out _ _ ⟨_, rfl, hrt.call (by decide) hm1 hm2 hA hB (by decide) hs2 hb2 hσ (trivial), Goes.but hb2 hσ, fun _ => ⟨r, rfl, hr⟩⟩
          · obtain rfl := Option.some.inj ho
            have e : a'.tmps.getD 0 undef = .pointer (some ⟨σ.b, 0, none⟩) := tmp_of ((hoth 0 (by decide)).trans rfl)
            clear hoth hdeps hdf hts ho hld
            refine wp_via (fun K' hK => ?_)
            have HK := Lib.hid hK
            clear hK
            go_simp
            exact HK.out _ _ ⟨_, rfl, hrt.same (by decide), Goes.refl _ _ _ _, fun _ => rfl⟩
          · obtain rfl := Option.some.inj ho
            have e : a'.tmps.getD 5 undef = .pointer (some ⟨pqb, pqi * 2, none⟩) := tmp_of ((hoth 5 (by decide)).trans rfl)
            clear hoth hdeps hdf hts ho hld
            refine wp_via (fun K' hK => ?_)
            have HK := Lib.hid hK
            clear hK
            go_simp
            exact HK.out _ _ ⟨_, rfl, hrt.same (by decide), Goes.refl _ _ _ _, fun _ => rfl⟩
          · obtain rfl := Option.some.inj ho
            have e : a'.tmps.getD 35 undef = .pointer (some ⟨pqb, pqi * 2, none⟩) := hdeps 10 (by decide) 35 rfl
            clear hoth hdeps hdf hts ho hld
            refine wp_via (fun K' hK => ?_)
            have HK := Lib.hid hK
            clear hK
            go_simp
            exact HK.out _ _ ⟨_, rfl, hrt.same (by decide), Goes.refl _ _ _ _, fun _ => rfl⟩
          · obtain rfl := Option.some.inj ho
            have e : a'.tmps.getD 36 undef = .pointer (some ⟨pqb, pqi * 2, none⟩) := hdeps 11 (by decide) 36 rfl
            clear hoth hdeps hdf hts ho hld
            refine wp_via (fun K' hK => ?_)
            have HK := Lib.hid hK
            clear hK
            go_simp
            exact HK.out _ _ ⟨_, rfl, hrt.same (by decide), Goes.refl _ _ _ _, fun _ => rfl⟩
          · obtain rfl := Option.some.inj ho
            have e : a'.tmps.getD 37 undef = .pointer (some ⟨pqb, pqi * 2 + 1, none⟩) := hdeps 12 (by decide) 37 rfl
            obtain ⟨s0, c0, z0⟩ := ((hrt.goes (fun _ => Nat.le_refl _)).tb _ _ _ HPQ.out).ldS (i := pqi) (j := 1) (o := pqi * 2 + 1) pql rfl (rfl)
            clear hoth hdeps hdf hts ho hld
            refine wp_via (fun K' hK => ?_)
            have HK := Lib.hid hK
            clear hK
            go_simp
            exact HK.out _ _ ⟨_, rfl, hrt.same (by decide), Goes.refl _ _ _ _, fun _ => ⟨_, rfl, z0⟩⟩
          · obtain rfl := Option.some.inj ho
            have e : a'.tmps.getD 5 undef = .pointer (some ⟨pqb, pqi * 2, none⟩) := tmp_of ((hoth 5 (by decide)).trans rfl)
            clear hoth hdeps hdf hts ho hld
            refine wp_via (fun K' hK => ?_)
            have HK := Lib.hid hK
            clear hK
            go_simp
            exact HK.out _ _ ⟨_, rfl, hrt.same (by decide), Goes.refl _ _ _ _, fun _ => rfl⟩
          · obtain rfl := Option.some.inj ho
            have e : a'.tmps.getD 39 undef = .pointer (some ⟨pqb, pqi * 2, none⟩) := hdeps 14 (by decide) 39 rfl
            clear hoth hdeps hdf hts ho hld
            refine wp_via (fun K' hK => ?_)
            have HK := Lib.hid hK
            clear hK
            go_simp
            exact HK.out _ _ ⟨_, rfl, hrt.same (by decide), Goes.refl _ _ _ _, fun _ => rfl⟩
          · obtain rfl := Option.some.inj ho
            have e : a'.tmps.getD 40 undef = .pointer (some ⟨pqb, pqi * 2, none⟩) := hdeps 15 (by decide) 40 rfl
            clear hoth hdeps hdf hts ho hld
            refine wp_via (fun K' hK => ?_)
            have HK := Lib.hid hK
            clear hK
            go_simp
            exact HK.out _ _ ⟨_, rfl, hrt.same (by decide), Goes.refl _ _ _ _, fun _ => rfl⟩
          · obtain rfl := Option.some.inj ho
            have e : a'.tmps.getD 41 undef = .pointer (some ⟨pqb, pqi * 2, none⟩) := hdeps 16 (by decide) 41 rfl
            obtain ⟨s0, c0, z0⟩ := ((hrt.goes (fun _ => Nat.le_refl _)).tb _ _ _ HPQ.out).ldS (i := pqi) (j := 0) (o := pqi * 2) pql rfl (rfl)
            clear hoth hdeps hdf hts ho hld
            refine wp_via (fun K' hK => ?_)
            have HK := Lib.hid hK
            clear hK
            go_simp
            exact HK.out _ _ ⟨_, rfl, hrt.same (by decide), Goes.refl _ _ _ _, fun _ => ⟨_, rfl, z0⟩⟩
          · obtain rfl := Option.some.inj ho
            obtain ⟨e0s, e0, e0z⟩ : ∃ s : ByteArray, a'.tmps.getD 38 undef = .string s ∧ s.size ≤ 200 := hdeps 13 (by decide) 38 rfl
            have e0q : a'.tmps[38]?.getD undef = .string e0s := by rw [← Array.getD_eq_getD_getElem?]; exact e0
            obtain ⟨e5s, e5, e5z⟩ : ∃ s : ByteArray, a'.tmps.getD 42 undef = .string s ∧ s.size ≤ 200 := hdeps 17 (by decide) 42 rfl
            have e5q : a'.tmps[42]?.getD undef = .string e5s := by rw [← Array.getD_eq_getD_getElem?]; exact e5
            clear hoth hdeps hdf hts ho hld
            refine wp_via (fun K' hK => ?_)
            have HK := Lib.hid hK
            clear hK
            go_simp
            exact HK.out _ _ ⟨_, rfl, hrt.all (by decide) (Kept.alloc _ _ _) hσ (trivial), Goes.all (Kept.alloc _ _ _), fun _ => ⟨_, rfl, TB.litN (kd := 0) (vs := [.string e0s, .string ⟨#[]⟩, .string ⟨#[117, 110, 105]⟩, .string ⟨#[108, 97, 98]⟩, .string ⟨#[110, 111, 110, 101]⟩, .string e5s]) hrt.lt rfl rfl ⟨⟨_, rfl, e0z⟩, ⟨_, rfl, by decide⟩, ⟨_, rfl, by decide⟩, ⟨_, rfl, by decide⟩, ⟨_, rfl, by decide⟩, ⟨_, rfl, e5z⟩, trivial⟩⟩⟩
          · obtain rfl := Option.some.inj ho
            have e0 : a'.tmps.getD 34 undef = .pointer (some ⟨σ.b, 0, none⟩) := hdeps 9 (by decide) 34 rfl
            obtain ⟨e1b, e1, e1t⟩ : ∃ g, a'.tmps.getD 43 undef = .slice (some ⟨g, 0, none⟩) 6 6 ∧ TB Θw B N wx g 0 6 := hdeps 18 (by decide) 43 rfl
            obtain ⟨m, hst, hm1, hm2⟩ := hrt.st
            clear hoth hdeps hdf hts ho hld
            refine wp_via (fun K' hK => ?_)
            have HK := Lib.hid hK
            clear hK
            go_simp
            refine (some10T_any hst (by omega) hσ e1t (by decide) (by decide)).mono ?_
            rintro e w2 ⟨v, m2, rfl, ⟨r, rfl, hr⟩, hA, hB, hs2, hb2⟩
            exact HK.out _ _ ⟨_, rfl, hrt.call (by decide) hm1 hm2 hA hB (by decide) hs2 hb2 hσ (trivial), Goes.but hb2 hσ, fun _ => ⟨r, rfl, hr⟩⟩
          · obtain rfl := Option.some.inj ho
            have e : a'.tmps.getD 25 undef = .pointer (some ⟨pqb, pqi * 2, none⟩) := hdeps 0 (by decide) 25 rfl
            clear hoth hdeps hdf hts ho hld
            refine wp_via (fun K' hK => ?_)
            have HK := Lib.hid hK
            clear hK
            go_simp
            exact HK.out _ _ ⟨_, rfl, hrt.same (by decide), Goes.refl _ _ _ _, fun _ => rfl⟩
          · obtain rfl := Option.some.inj ho
            have e : a'.tmps.getD 45 undef = .pointer (some ⟨pqb, pqi * 2, none⟩) := hdeps 20 (by decide) 45 rfl
            clear hoth hdeps hdf hts ho hld
            refine wp_via (fun K' hK => ?_)
            have HK := Lib.hid hK
            clear hK
            go_simp
            exact HK.out _ _ ⟨_, rfl, hrt.same (by decide), Goes.refl _ _ _ _, fun _ => rfl⟩
          · obtain rfl := Option.some.inj ho
            have e : a'.tmps.getD 46 undef = .pointer (some ⟨pqb, pqi * 2, none⟩) := hdeps 21 (by decide) 46 rfl
            obtain ⟨xs, x, xz⟩ : ∃ s : ByteArray, a'.tmps.getD 33 undef = .string s ∧ s.size ≤ 200 := hdeps 8 (by decide) 33 rfl
            have hT := (hrt.goes (fun _ => Nat.le_refl _)).tb _ _ _ HPQ.out
            obtain ⟨s0, c0, -⟩ := hT.ldS (i := pqi) (j := 0) (o := pqi * 2) pql rfl (rfl)
            have z0 := hT.fz (pqi * 2)
            have hmod : (Θw.fds 1)[(pqi * 2) % Θw.sz 1]? = some .s := by rw [show (pqi * 2) % Θw.sz 1 = 0 from by show (pqi * 2) % 2 = 0; omega]; rfl
            clear hoth hdeps hdf hts ho hld
            refine wp_via (fun K' hK => ?_)
            have HK := Lib.hid hK
            clear hK
            go_simp
            exact HK.out _ _ ⟨undef, rfl, hrt.put (by decide) rfl (wSep 1 (by decide)) hT hmod ⟨_, rfl, xz⟩ (trivial) hσ, Goes.set (wSep 1 (by decide)) hT hmod ⟨_, rfl, xz⟩, fun h => absurd rfl h⟩
          · obtain rfl := Option.some.inj ho
            have e : a'.tmps.getD 26 undef = .pointer (some ⟨pqb, pqi * 2, none⟩) := hdeps 1 (by decide) 26 rfl
            clear hoth hdeps hdf hts ho hld
            refine wp_via (fun K' hK => ?_)
            have HK := Lib.hid hK
            clear hK
            go_simp
            exact HK.out _ _ ⟨_, rfl, hrt.same (by decide), Goes.refl _ _ _ _, fun _ => rfl⟩
          · obtain rfl := Option.some.inj ho
            have e : a'.tmps.getD 47 undef = .pointer (some ⟨pqb, pqi * 2, none⟩) := hdeps 23 (by decide) 47 rfl
            clear hoth hdeps hdf hts ho hld
            refine wp_via (fun K' hK => ?_)
            have HK := Lib.hid hK
            clear hK
            go_simp
            exact HK.out _ _ ⟨_, rfl, hrt.same (by decide), Goes.refl _ _ _ _, fun _ => rfl⟩
        · intro L wx f hrt hdl
          have pp : f 48 = .pointer (some ⟨pqb, pqi * 2 + 1, none⟩) := hdl 24 48 (by decide) rfl
          obtain ⟨pvs, pv, pvz⟩ : ∃ s : ByteArray, f 44 = .string s ∧ s.size ≤ 200 := hdl 19 44 (by decide) rfl
          rw [show dsts _ _ = [25, 26, 27, 28, 29, 30, 31, 32, 33, 34, 35, 36, 37, 38, 39, 40, 41, 42, 43, 44, 45, 46, 47, 48] from by kernel_rfl]
          simp only [List.map_cons, List.map_nil, puts, Act.put, pp, pv]
          generalize f 25 = f25
          generalize f 26 = f26
          generalize f 27 = f27
          generalize f 28 = f28
          generalize f 29 = f29
          generalize f 30 = f30
          generalize f 31 = f31
          generalize f 32 = f32
          generalize f 33 = f33
          generalize f 34 = f34
          generalize f 35 = f35
          generalize f 36 = f36
          generalize f 37 = f37
          generalize f 38 = f38
          generalize f 39 = f39
          generalize f 40 = f40
          generalize f 41 = f41
          generalize f 42 = f42
          generalize f 43 = f43
          generalize f 45 = f45
          generalize f 46 = f46
          generalize f 47 = f47
          simp only [List.setIfInBounds_toArray, List.set_cons_zero, List.set_cons_succ]
          clear hdl pp pv f
          obtain ⟨mz, hstz, hmz1, hmz2⟩ := hrt.st
          have hgoz := Lib.hid (hrt.goes (fun _ => Nat.le_refl _))
          have hkpz := Lib.hid hrt.kp
          have hltz := Lib.hid hrt.lt
          have hstz := Lib.hid hstz
          have hexz := Lib.hid hrt.ex
          clear hrt
          have HT := Lib.hid (hgoz.out.tb _ _ _ HPQ.out)
          obtain ⟨s3, d3, -⟩ := HT.out.ldS (i := pqi) (j := 1) (o := pqi * 2 + 1) pql rfl rfl
          have z3 := HT.out.fz (pqi * 2 + 1)
          have hset : Goes Θw B N wx N (wx.setCell ⟨pqb, pqi * 2 + 1, none⟩ (.string pvs)) := Goes.set (wSep 1 (by decide)) HT.out (f := .s) (by rw [show (pqi * 2 + 1) % Θw.sz 1 = 1 from by show (pqi * 2 + 1) % 2 = 1; omega]; rfl) ⟨_, rfl, pvz⟩
          have hks : Kept (fun b => b ≠ pqb) wx (wx.setCell ⟨pqb, pqi * 2 + 1, none⟩ (.string pvs)) := Kept.setCell _ _ _ (fun h => h rfl)
          have hlow := HT.out.low
          obtain ⟨w5, hw5⟩ : ∃ z, z = wx.setCell ⟨pqb, pqi * 2 + 1, none⟩ (.string pvs) := ⟨_, rfl⟩
          have HW5 := Lib.hid hw5
          rw [← hw5] at hset hks
          have HGF := Lib.hid (show GenX σ B N N n 20000000 w0 w5 mz from ⟨hstz.out.kept hks (fun j hj => by omega), by have := HGN4.out.lo; omega, by have := HGN4.out.hi; omega, (HGN4.out.kp.trans hkpz.out).trans2 hks (fun x _ hx => by have := hx.1; omega), (HGN4.out.goes.trans hgoz.out).trans hset, Nat.le_trans hltz.out hks.size⟩)
          have HWB5 := Lib.hid ((hgoz.out.trans hset).tb _ _ _ HWB4.out)
          have HRB5 := Lib.hid ((hgoz.out.trans hset).tb _ _ _ HRB4.out)
          have HNB := Lib.hid (show ∀ x, N x ≤ N x + 1 from fun x => by omega)
          clear hset hks hlow hw5 pql
          go_upto_region 5 with fail
          clear d3 z3
          simp only [← HW5.out]
          obtain ⟨v0, y0, t0, v1, y1, t1, v2, y2, t2, v3, y3, t3, f0, f1, f2, f3, g0, g1, g2, g3⟩ := HWB5.out.wld (by decide)
          obtain ⟨b0, o0, p0, b1, o1, p1, b2, o2, p2, b3, o3, p3, r0, r1, r2, r3, -⟩ := HRB5.out.wld (by decide)
          have z0 := HRB5.out.fz 0
          have z1 := HRB5.out.fz 1
          have z2 := HRB5.out.fz 2
          have z3 := HRB5.out.fz 3
          obtain ⟨hwg, hff, q0, q1', q2', q3'⟩ := wldFin HRB5.out g0 g1 g2 g3
          have HWG := Lib.hid hwg
          have HFF := Lib.hid (HGF.out.fin hff (c' := 30000000) HRB5.out.low hσ (by decide))
          clear g0 g1 g2 g3 hwg hff
          go_wp2_with fail
          refine bodyPost_ret (v := .agg #[.slice v0 y0 t0, .slice v1 y1 t1, .slice v2 y2 t2, .slice v3 y3 t3]) ?_ rfl ⟨_, _, N, rfl, HWG.out, HFF.out, fun x => by first | exact HNB.out x | omega⟩
          simp [results, Tryz.results14, go_sem, q0, q1', q2', q3']
    | false =>
      clear hby
      have HNB := Lib.hid (show ∀ x, N x ≤ N x + 1 from fun x => by omega)
      have c1 := HC1.out
      by_cases hy : y1 = 0
      · have hd : ((y1 : Int) == 0) = true := by rw [hy]; rfl
        go_upto_region 7 with fail
        clear c1
        have HGF := HGN3
        obtain ⟨v0, y0, t0, v1, y1, t1, v2, y2, t2, v3, y3, t3, f0, f1, f2, f3, g0, g1, g2, g3⟩ := HWB3.out.wld (by decide)
        obtain ⟨b0, o0, p0, b1, o1, p1, b2, o2, p2, b3, o3, p3, r0, r1, r2, r3, -⟩ := HRB3.out.wld (by decide)
        have z0 := HRB3.out.fz 0
        have z1 := HRB3.out.fz 1
        have z2 := HRB3.out.fz 2
        have z3 := HRB3.out.fz 3
        obtain ⟨hwg, hff, q0, q1', q2', q3'⟩ := wldFin HRB3.out g0 g1 g2 g3
        have HWG := Lib.hid hwg
        have HFF := Lib.hid (HGF.out.fin hff (c' := 30000000) HRB3.out.low hσ (by decide))
        clear g0 g1 g2 g3 hwg hff
        go_wp2_with fail
        refine bodyPost_ret (v := .agg #[.slice v0 y0 t0, .slice v1 y1 t1, .slice v2 y2 t2, .slice v3 y3 t3]) ?_ rfl ⟨_, _, N, rfl, HWG.out, HFF.out, fun x => by first | exact HNB.out x | omega⟩
        simp [results, Tryz.results14, go_sem, q0, q1', q2', q3']
      have hd : ((y1 : Int) == 0) = false := by rw [beq_eq_false_iff_ne]; omega
      obtain ⟨a', n', c', e, hlN, hlc, hq⟩ := HG1.out.slice
      cases e
      obtain ⟨g0, rfl, htb⟩ := hq (by omega)
      have HGX := Lib.hid htb
      have HCX := HC1
      clear hq htb hlN HG0 HC0 HG1
      go_upto_region 8 with fail
      clear c1
      refine wp_region_ty 8 (by kernel_rfl) (by kernel_rfl) (RT Θw σ B N N (fun w => w.cell? ⟨wb, 1, none⟩ = some (.slice (some ⟨g0, 0, none⟩) y1 t1)) w3 m3 999 999)
        (DL [QIs (.pointer (some ⟨wb, 1, none⟩)), QIs (.slice (some ⟨g0, 0, none⟩) y1 t1), QIs (.pointer (some ⟨σ.b, 0, none⟩)), QIs (.pointer (some ⟨wb, 1, none⟩)), QIs (.slice (some ⟨g0, 0, none⟩) y1 t1), QIs (.int .i64 (y1 : Int)), PR (0) (((y1 : Nat) : Int) - 1), PE Θw B N 5]) (fun w w' => Goes Θw B N w N w')
        (DL.keep (by simp only [List.forall_mem_cons, List.not_mem_nil, false_implies, implies_true, and_true]; exact ⟨QIs.stays' _, QIs.stays' _, QIs.stays' _, QIs.stays' _, QIs.stays' _, QIs.stays' _, PR.stays _ _, PE.stays _⟩)) ?_ ?_ ?_
      · exact ⟨⟨m3, HST.out.keep (Kept.drew _ _), Nat.le_refl _, by omega⟩, Kept.drew _ _, HLT.out, by rw [if_neg (by decide)]; exact Goes.all (Kept.drew _ _), fun h => (by cases h), (Kept.drew (fun _ => True) _).cell HCX.out trivial⟩
      · intro i o ho hi kq L a' wx hkq hrt hL hdf hts hoth hld hdeps
        have hkz : kq < 8 := hkq
        have hz : i = 0 ∨ i = 1 ∨ i = 2 ∨ i = 3 ∨ i = 4 ∨ i = 5 ∨ i = 6 ∨ i = 7 := by have : i < 8 := hi; omega
        rcases hz with rfl | rfl | rfl | rfl | rfl | rfl | rfl | rfl
        · obtain rfl := Option.some.inj ho
          have e : a'.tmps.getD 3 undef = .pointer (some ⟨wb, 0, none⟩) := tmp_of ((hoth 3 (by decide)).trans rfl)
          clear hoth hdeps hdf hts ho hld
          refine wp_via (fun K' hK => ?_)
          have HK := Lib.hid hK
          clear hK
          go_simp
          exact HK.out _ _ ⟨_, rfl, hrt.same (by decide), Goes.refl _ _ _ _, fun _ => rfl⟩
        · obtain rfl := Option.some.inj ho
          have e : a'.tmps.getD 55 undef = .pointer (some ⟨wb, 1, none⟩) := hdeps 0 (by decide) 55 rfl
          have c0 := hrt.ex
          clear hoth hdeps hdf hts ho hld
          refine wp_via (fun K' hK => ?_)
          have HK := Lib.hid hK
          clear hK
          go_simp
          exact HK.out _ _ ⟨_, rfl, hrt.same (by decide), Goes.refl _ _ _ _, fun _ => rfl⟩
        · obtain rfl := Option.some.inj ho
          have e : a'.tmps.getD 0 undef = .pointer (some ⟨σ.b, 0, none⟩) := tmp_of ((hoth 0 (by decide)).trans rfl)
          clear hoth hdeps hdf hts ho hld
          refine wp_via (fun K' hK => ?_)
          have HK := Lib.hid hK
          clear hK
          go_simp
          exact HK.out _ _ ⟨_, rfl, hrt.same (by decide), Goes.refl _ _ _ _, fun _ => rfl⟩
        · obtain rfl := Option.some.inj ho
          have e : a'.tmps.getD 3 undef = .pointer (some ⟨wb, 0, none⟩) := tmp_of ((hoth 3 (by decide)).trans rfl)
          clear hoth hdeps hdf hts ho hld
          refine wp_via (fun K' hK => ?_)
          have HK := Lib.hid hK
          clear hK
          go_simp
          exact HK.out _ _ ⟨_, rfl, hrt.same (by decide), Goes.refl _ _ _ _, fun _ => rfl⟩
        · obtain rfl := Option.some.inj ho
          have e : a'.tmps.getD 58 undef = .pointer (some ⟨wb, 1, none⟩) := hdeps 3 (by decide) 58 rfl
          have c0 := hrt.ex
          clear hoth hdeps hdf hts ho hld
          refine wp_via (fun K' hK => ?_)
          have HK := Lib.hid hK
          clear hK
          go_simp
          exact HK.out _ _ ⟨_, rfl, hrt.same (by decide), Goes.refl _ _ _ _, fun _ => rfl⟩
        · obtain rfl := Option.some.inj ho
          have e : a'.tmps.getD 59 undef = .slice (some ⟨g0, 0, none⟩) y1 t1 := hdeps 4 (by decide) 59 rfl
          clear hoth hdeps hdf hts ho hld
          refine wp_via (fun K' hK => ?_)
          have HK := Lib.hid hK
          clear hK
          go_simp
          exact HK.out _ _ ⟨_, rfl, hrt.same (by decide), Goes.refl _ _ _ _, fun _ => rfl⟩
        · obtain rfl := Option.some.inj ho
          have e0 : a'.tmps.getD 57 undef = .pointer (some ⟨σ.b, 0, none⟩) := hdeps 2 (by decide) 57 rfl
          have e1 : a'.tmps.getD 60 undef = .int .i64 (y1 : Int) := hdeps 5 (by decide) 60 rfl
          obtain ⟨m, hst, hm1, hm2⟩ := hrt.st
          clear hoth hdeps hdf hts ho hld
          refine wp_via (fun K' hK => ?_)
          have HK := Lib.hid hK
          clear hK
          go_simp
          refine (next_any σ m y1 wx hst (by omega) (by omega) (by omega)).mono ?_
          rintro e w2 ⟨v, m2, rfl, ⟨r, rfl, hr1, hr2⟩, hA, hB, hs2, hb2⟩
          exact HK.out _ _ ⟨_, rfl, hrt.call (by decide) hm1 hm2 hA hB (by decide) hs2 hb2 hσ (hb2.cell hrt.ex HNS.out), Goes.but hb2 hσ, fun _ => ⟨r, rfl, by omega, by omega⟩⟩
        · obtain rfl := Option.some.inj ho
          have e : a'.tmps.getD 56 undef = .slice (some ⟨g0, 0, none⟩) y1 t1 := hdeps 1 (by decide) 56 rfl
          obtain ⟨xi, x, xl, xh⟩ : ∃ z : Int, a'.tmps.getD 61 undef = .int .i64 z ∧ 0 ≤ z ∧ z ≤ ((y1 : Nat) : Int) - 1 := hdeps 6 (by decide) 61 rfl
          obtain ⟨xk, rfl⟩ := Int.eq_ofNat_of_zero_le xl
          have x2 : (xk : Int) < (y1 : Int) := by omega
          have x3 : (0 : Int) ≤ (xk : Int) := by omega
          clear hoth hdeps hdf hts ho hld
          refine wp_via (fun K' hK => ?_)
          have HK := Lib.hid hK
          clear hK
          go_simp
          exact HK.out _ _ ⟨_, rfl, hrt.same (by decide), Goes.refl _ _ _ _, fun _ => ⟨_, xk, _, rfl, by have := hlc; omega, (hrt.goes (fun _ => Nat.le_refl _)).tb _ _ _ HGX.out⟩⟩
      · intro L wx f hrt hdl
        obtain ⟨pqb, pqi, pqm, pq, pql, pqt⟩ : ∃ b i m, f 62 = .pointer (some ⟨b, i * 5, none⟩) ∧ i < m ∧ TB Θw B N wx b 5 m := hdl 7 62 (by decide) rfl
        rw [show dsts _ _ = [55, 56, 57, 58, 59, 60, 61, 62] from by kernel_rfl]
        simp only [List.map_cons, List.map_nil, puts, Act.put, pq]
        generalize f 55 = f55
        generalize f 56 = f56
        generalize f 57 = f57
        generalize f 58 = f58
        generalize f 59 = f59
        generalize f 60 = f60
        generalize f 61 = f61
        simp only [List.setIfInBounds_toArray, List.set_cons_zero, List.set_cons_succ]
        clear hdl pq f
        obtain ⟨mz, hstz, hmz1, hmz2⟩ := hrt.st
        have hgoz := Lib.hid (hrt.goes (fun _ => Nat.le_refl _))
        have hkpz := Lib.hid hrt.kp
        have hltz := Lib.hid hrt.lt
        have hstz := Lib.hid hstz
        have hexz := Lib.hid hrt.ex
        clear hrt
        have HPQ := Lib.hid pqt
        have HWB4 := Lib.hid (hgoz.out.tb _ _ _ HWB3.out)
        have HRB4 := Lib.hid (hgoz.out.tb _ _ _ HRB3.out)
        have HGN4 := Lib.hid (show GenX σ B N N n 10001000 w0 wx mz from ⟨hstz.out, by have := HGN3.out.lo; omega, by omega, HGN3.out.kp.trans hkpz.out, HGN3.out.goes.trans hgoz.out, hltz.out⟩)
        have hstw := hstz.out
        clear pqt
        go_wp2_with fail
        refine (next_any σ mz 8 _ hstw (by omega) (by omega) (by omega)).mono ?_
        rintro e w5 ⟨v, m5, rfl, ⟨r, rfl, hr1, hr2⟩, hA5, hB5, hs5, hb5⟩
        have HGB := Lib.hid ((Goes.but hb5 hσ).tb _ _ _ HPQ.out)
        have HWB5 := Lib.hid ((Goes.but hb5 hσ).tb _ _ _ HWB4.out)
        have HRB5 := Lib.hid ((Goes.but hb5 hσ).tb _ _ _ HRB4.out)
        have HGEN := Lib.hid (show GenX σ B N N n 10001001 w0 w5 m5 from ⟨hs5, by have := HGN4.out.lo; omega, by have := HGN4.out.hi; omega, HGN4.out.kp.trans2 hb5 (fun _ _ h => h.2), HGN4.out.goes.trans (Goes.but hb5 hσ), Nat.le_trans HGN4.out.lt hb5.size⟩)
        have HST := Lib.hid hs5
        have HLT := Lib.hid HGEN.out.lt
        have hm5 : m5 ≤ n + 10001001 := HGEN.out.hi
        obtain ⟨g, rfl⟩ : ∃ z : Nat, z = pqb := ⟨_, rfl⟩
        obtain ⟨pi, rfl⟩ : ∃ z : Nat, z = pqi := ⟨_, rfl⟩
        have hpi := pql
        clear hb5 hs5 hstw HPQ HWB4 HRB4 HGN4 HGN3 HNB pql
        go_upto_block 0 with fail
        go_cut [] (fun wx => ∃ (N' : Nat → Nat) (m : Nat), (∀ x, N' x ≤ N x + 1) ∧ GenX σ B N N' n 20000000 w0 wx m ∧ Goes Θw B N w5 N' wx)
        case first =>
          have hr8 : r = 0 ∨ r = 1 ∨ r = 2 ∨ r = 3 ∨ r = 4 ∨ r = 5 ∨ r = 6 ∨ r = 7 := by omega
          clear hr1 hr2
          rcases hr8 with rfl | rfl | rfl | rfl | rfl | rfl | rfl | rfl
          · have hst5 := HGEN.out.st
            have hl5 := hst5.lt
            go_wp2_with fail
            refine (some10_any σ m5 _ 4 4 [⟨#[]⟩, ⟨#[65]⟩, ⟨#[97, 110, 110]⟩, ⟨#[122, 101, 100]⟩] _ (hst5.keep (Kept.alloc _ _ _)) (by omega) (Sl.lit_strs _ (heap_at w5 _ _ rfl) rfl (by omega)) (by omega) (by omega)).mono ?_
            rintro e w6 ⟨v, m6, rfl, ⟨r, rfl, hr, -⟩, hA6, hB6, hs6, hb6⟩
            have hz : r.size ≤ 200 := by
              simp only [List.mem_cons, List.not_mem_nil, or_false] at hr
              rcases hr with rfl | rfl | rfl | rfl <;> decide
            have HK6 := Lib.hid (show But σ.b w5 w6 from (Kept.all (Kept.alloc _ _ _)).trans hb6)
            have HT := Lib.hid ((Goes.but HK6.out hσ).tb _ _ _ HGB.out)
            obtain ⟨s3, d3, -⟩ := HT.out.ldS (i := pi) (j := 0) (o := pi * 5) hpi rfl rfl
            have z3 := HT.out.fz (pi * 5)
            have hset : Goes Θw B N w6 N (w6.setCell ⟨g, pi * 5, none⟩ (.string r)) := Goes.set (wSep 5 (by decide)) HT.out (f := .s) (by rw [show (pi * 5) % Θw.sz 5 = 0 from by show (pi * 5) % 5 = 0; omega]; rfl) ⟨_, rfl, hz⟩
            have hks : Kept (fun b => b ≠ g) w6 (w6.setCell ⟨g, pi * 5, none⟩ (.string r)) := Kept.setCell _ _ _ (fun h => h rfl)
            have hlow := HT.out.low
            have HF := Lib.hid (show GenX σ B N N n 20000000 w0 (w6.setCell ⟨g, pi * 5, none⟩ (.string r)) m6 from ⟨hs6.kept hks (fun j hj => by omega), by have := HGEN.out.lo; omega, by have := HGEN.out.hi; omega, (HGEN.out.kp.trans2 HK6.out (fun _ _ h => h.2)).trans2 hks (fun x _ hx => by have := hx.1; omega), (HGEN.out.goes.trans (Goes.but HK6.out hσ)).trans hset, Nat.le_trans (Nat.le_trans HGEN.out.lt HK6.out.size) hks.size⟩)
            have HGF := Lib.hid ((Goes.but HK6.out hσ).trans hset)
            clear hset hks hlow hr hb6 hs6 hst5
            go_wp2_with fail
            go_meet
            exact ⟨N, m6, fun x => by omega, HF.out, HGF.out⟩
          · have hloS : ∀ x, 8 ≤ (up N 2) x := fun x => Nat.le_trans (hlo x) (up_le N _ x)
            have hhiS : ∀ x, (up N 2) x ≤ 1000 := fun x => by have := up_lt N 2 x; have := hhi x; omega
            go_upto_region 14 with fail
            refine wp_region_ty 14 (by kernel_rfl) (by kernel_rfl) (RT Θw σ B N (up N 2) (fun _ => True) w5 m5 11 4)
              (DL [QIs (.pointer (some ⟨g, pi * 5, none⟩)), QIs (.pointer (some ⟨g, pi * 5, none⟩)), QIs (.pointer (some ⟨g, pi * 5, none⟩)), QIs (.pointer (some ⟨g, pi * 5 + 1, none⟩)), PL Θw B N (up N 2) 2, QIs (.pointer (some ⟨σ.b, 0, none⟩)), PG Θw B (up N 2) .s, QIs (.pointer (some ⟨σ.b, 0, none⟩)), PG Θw B (up N 2) .i, PA Θw B (up N 2) 2, PT Θw B (up N 2) 2 1, PG Θw B (up N 2) (.sl 2), QIs (.pointer (some ⟨g, pi * 5, none⟩)), QIs (.pointer (some ⟨g, pi * 5 + 1, none⟩))]) (fun w w' => Goes Θw B (up N 2) w (up N 2) w')
              (DL.keep (by simp only [List.forall_mem_cons, List.not_mem_nil, false_implies, implies_true, and_true]; exact ⟨QIs.stays' _, QIs.stays' _, QIs.stays' _, QIs.stays' _, PL.stays _, QIs.stays' _, PG.stays _, QIs.stays' _, PG.stays _, PA.stays _, PT.stays _ _, PG.stays _, QIs.stays' _, QIs.stays' _⟩)) ?_ ?_ ?_
            · exact ⟨⟨m5, HST.out.keep (Kept.drew _ _), Nat.le_refl _, by omega⟩, Kept.drew _ _, HLT.out, by rw [if_neg (by decide)]; exact Goes.all (Kept.drew _ _), fun h => (by cases h), trivial⟩
            · intro i o ho hi kq L a' wx hkq hrt hL hdf hts hoth hld hdeps
              have hkz : kq < 14 := hkq
              have hz : i = 0 ∨ i = 1 ∨ i = 2 ∨ i = 3 ∨ i = 4 ∨ i = 5 ∨ i = 6 ∨ i = 7 ∨ i = 8 ∨ i = 9 ∨ i = 10 ∨ i = 11 ∨ i = 12 ∨ i = 13 := by have : i < 14 := hi; omega
              rcases hz with rfl | rfl | rfl | rfl | rfl | rfl | rfl | rfl | rfl | rfl | rfl | rfl | rfl | rfl
              · obtain rfl := Option.some.inj ho
                have e : a'.tmps.getD 6 undef = .pointer (some ⟨g, pi * 5, none⟩) := tmp_of ((hoth 6 (by decide)).trans rfl)
                clear hoth hdeps hdf hts ho hld
                refine wp_via (fun K' hK => ?_)
                have HK := Lib.hid hK
                clear hK
                go_simp
                exact HK.out _ _ ⟨_, rfl, hrt.same (by decide), Goes.refl _ _ _ _, fun _ => rfl⟩
              · obtain rfl := Option.some.inj ho
                have e : a'.tmps.getD 6 undef = .pointer (some ⟨g, pi * 5, none⟩) := tmp_of ((hoth 6 (by decide)).trans rfl)
                clear hoth hdeps hdf hts ho hld
                refine wp_via (fun K' hK => ?_)
                have HK := Lib.hid hK
                clear hK
                go_simp
                exact HK.out _ _ ⟨_, rfl, hrt.same (by decide), Goes.refl _ _ _ _, fun _ => rfl⟩
              · obtain rfl := Option.some.inj ho
                have e : a'.tmps.getD 88 undef = .pointer (some ⟨g, pi * 5, none⟩) := hdeps 1 (by decide) 88 rfl
                clear hoth hdeps hdf hts ho hld
                refine wp_via (fun K' hK => ?_)
                have HK := Lib.hid hK
                clear hK
                go_simp
                exact HK.out _ _ ⟨_, rfl, hrt.same (by decide), Goes.refl _ _ _ _, fun _ => rfl⟩
              · obtain rfl := Option.some.inj ho
                have e : a'.tmps.getD 89 undef = .pointer (some ⟨g, pi * 5, none⟩) := hdeps 2 (by decide) 89 rfl
                clear hoth hdeps hdf hts ho hld
                refine wp_via (fun K' hK => ?_)
                have HK := Lib.hid hK
                clear hK
                go_simp
                exact HK.out _ _ ⟨_, rfl, hrt.same (by decide), Goes.refl _ _ _ _, fun _ => rfl⟩
              · obtain rfl := Option.some.inj ho
                have e : a'.tmps.getD 90 undef = .pointer (some ⟨g, pi * 5 + 1, none⟩) := hdeps 3 (by decide) 90 rfl
                obtain ⟨a0, n0, c0', c0, z0, g0⟩ := ((hrt.old (hrt.notyet hL)).tb _ _ _ HGB.out).ldL (i := pi) (j := 1) (o := pi * 5 + 1) hpi rfl (rfl)
                clear hoth hdeps hdf hts ho hld
                refine wp_via (fun K' hK => ?_)
                have HK := Lib.hid hK
                clear hK
                go_simp
                exact HK.out _ _ ⟨_, rfl, hrt.same (by decide), Goes.refl _ _ _ _, fun _ => ⟨_, _, _, rfl, z0, Gd.goes g0 (Goes.up (fun x => up_le N 2 x))⟩⟩
              · obtain rfl := Option.some.inj ho
                have e : a'.tmps.getD 0 undef = .pointer (some ⟨σ.b, 0, none⟩) := tmp_of ((hoth 0 (by decide)).trans rfl)
                clear hoth hdeps hdf hts ho hld
                refine wp_via (fun K' hK => ?_)
                have HK := Lib.hid hK
                clear hK
                go_simp
                exact HK.out _ _ ⟨_, rfl, hrt.same (by decide), Goes.refl _ _ _ _, fun _ => rfl⟩
              · obtain rfl := Option.some.inj ho
                have e0 : a'.tmps.getD 92 undef = .pointer (some ⟨σ.b, 0, none⟩) := hdeps 5 (by decide) 92 rfl
                obtain ⟨m, hst, hm1, hm2⟩ := hrt.st
                clear hoth hdeps hdf hts ho hld
                refine wp_via (fun K' hK => ?_)
                have HK := Lib.hid hK
                clear hK
                go_simp
                refine (someName_any σ m wx hst (by omega)).mono ?_
                rintro e w2 ⟨v, m2, rfl, ⟨r, rfl, hr⟩, hA, hB, hs2, hb2⟩
                exact HK.out _ _ ⟨_, rfl, hrt.call (by decide) hm1 hm2 hA hB (by decide) hs2 hb2 hσ (trivial), Goes.but hb2 hσ, fun _ => ⟨r, rfl, hr⟩⟩
              · obtain rfl := Option.some.inj ho
                have e : a'.tmps.getD 0 undef = .pointer (some ⟨σ.b, 0, none⟩) := tmp_of ((hoth 0 (by decide)).trans rfl)
                clear hoth hdeps hdf hts ho hld
                refine wp_via (fun K' hK => ?_)
                have HK := Lib.hid hK
                clear hK
                go_simp
                exact HK.out _ _ ⟨_, rfl, hrt.same (by decide), Goes.refl _ _ _ _, fun _ => rfl⟩
              · obtain rfl := Option.some.inj ho
                have e0 : a'.tmps.getD 94 undef = .pointer (some ⟨σ.b, 0, none⟩) := hdeps 7 (by decide) 94 rfl
                obtain ⟨m, hst, hm1, hm2⟩ := hrt.st
                clear hoth hdeps hdf hts ho hld
                refine wp_via (fun K' hK => ?_)
                have HK := Lib.hid hK
                clear hK
                go_simp
                refine (odd10_any σ m 0 4000 wx hst (by omega) (by omega) (by omega) (by omega)).mono ?_
                rintro e w2 ⟨v, m2, rfl, ⟨r, rfl, hr⟩, hA, hB, hs2, hb2⟩
                exact HK.out _ _ ⟨_, rfl, hrt.call (by decide) hm1 hm2 hA hB (by decide) hs2 hb2 hσ (trivial), Goes.but hb2 hσ, fun _ => ⟨r, rfl, hr⟩⟩
              · obtain rfl := Option.some.inj ho
                obtain ⟨e0s, e0, e0z⟩ : ∃ s : ByteArray, a'.tmps.getD 93 undef = .string s ∧ s.size ≤ 200 := hdeps 6 (by decide) 93 rfl
                have e0q : a'.tmps[93]?.getD undef = .string e0s := by rw [← Array.getD_eq_getD_getElem?]; exact e0
                obtain ⟨e1i, e1, e1l, e1h⟩ : ∃ z : Int, a'.tmps.getD 95 undef = .int .i64 z ∧ -2000000000000 ≤ z ∧ z ≤ 2000000000000 := hdeps 8 (by decide) 95 rfl
                have e1q : a'.tmps[95]?.getD undef = .int .i64 e1i := by rw [← Array.getD_eq_getD_getElem?]; exact e1
                clear hoth hdeps hdf hts ho hld
                refine wp_via (fun K' hK => ?_)
                have HK := Lib.hid hK
                clear hK
                go_simp
                exact HK.out _ _ ⟨_, rfl, hrt.same (by decide), Goes.refl _ _ _ _, fun _ => ⟨[.string e0s, .int .i64 e1i], rfl, ⟨_, rfl, e0z⟩, ⟨_, rfl, e1l, e1h⟩, trivial⟩⟩
              · obtain rfl := Option.some.inj ho
                obtain ⟨e0v, e0, e0g⟩ : ∃ vs : List Value, a'.tmps.getD 96 undef = .agg vs.toArray ∧ GdL Θw B (up N 2) wx (Θw.fds 2) vs := hdeps 9 (by decide) 96 rfl
                obtain ⟨e0x0, e0x1, rfl⟩ := inv2 e0g
                replace e0 : a'.tmps.getD 96 undef = .agg #[.string e0x0, .int .i64 e0x1] := e0
                have e0q : a'.tmps[96]?.getD undef = .agg #[.string e0x0, .int .i64 e0x1] := by rw [← Array.getD_eq_getD_getElem?]; exact e0
                clear hoth hdeps hdf hts ho hld
                refine wp_via (fun K' hK => ?_)
                have HK := Lib.hid hK
                clear hK
                go_simp
                exact HK.out _ _ ⟨_, rfl, hrt.all (by decide) (Kept.alloc _ _ _) hσ (trivial), Goes.all (Kept.alloc _ _ _), fun _ => ⟨_, rfl, TB.lit1 hrt.lt (by decide) e0g⟩⟩
              · obtain rfl := Option.some.inj ho
                obtain ⟨ea, en, ec, e, el, eg⟩ : ∃ a n c, a'.tmps.getD 91 undef = .slice a n c ∧ n ≤ N 2 ∧ Gd Θw B (up N 2) wx (.sl 2) (.slice a n c) := hdeps 4 (by decide) 91 rfl
                obtain ⟨xb, x, xt⟩ : ∃ g, a'.tmps.getD 97 undef = .slice (some ⟨g, 0, none⟩) 1 1 ∧ TB Θw B (up N 2) wx g 2 1 := hdeps 10 (by decide) 97 rfl
                have hlc : L 4 = true := hld 4 (by decide)
                clear hoth hdeps hdf hts ho hld
                refine wp_via (fun K' hK => ?_)
                have HK := Lib.hid hK
                clear hK
                refine op_append_tt wOk2 (wSep 2 (by decide)) wx _ _ rfl (ea) en ec e eg _ 1 1 x xt (by decide) (by decide) (up N 2) (fun _ => Nat.le_refl _) (by have := el; have := up_at N 2; omega) (by have := hhiS 2; omega) hrt.lt ?_
                intro p' c' w' hA
                exact HK.out _ _ ⟨_, rfl, hrt.app hlc (fun x => up_le N 2 x) eg hA hσ (trivial), hA.goes, fun _ => hA.gd⟩
              · obtain rfl := Option.some.inj ho
                have e : a'.tmps.getD 87 undef = .pointer (some ⟨g, pi * 5, none⟩) := hdeps 0 (by decide) 87 rfl
                clear hoth hdeps hdf hts ho hld
                refine wp_via (fun K' hK => ?_)
                have HK := Lib.hid hK
                clear hK
                go_simp
                exact HK.out _ _ ⟨_, rfl, hrt.same (by decide), Goes.refl _ _ _ _, fun _ => rfl⟩
              · obtain rfl := Option.some.inj ho
                have e : a'.tmps.getD 99 undef = .pointer (some ⟨g, pi * 5, none⟩) := hdeps 12 (by decide) 99 rfl
                clear hoth hdeps hdf hts ho hld
                refine wp_via (fun K' hK => ?_)
                have HK := Lib.hid hK
                clear hK
                go_simp
                exact HK.out _ _ ⟨_, rfl, hrt.same (by decide), Goes.refl _ _ _ _, fun _ => rfl⟩
            · intro L wx f hrt hdl
              have pp : f 100 = .pointer (some ⟨g, pi * 5 + 1, none⟩) := hdl 13 100 (by decide) rfl
              obtain ⟨pvv, pv', pvg'⟩ : ∃ v, f 98 = v ∧ Gd Θw B (up N 2) wx (.sl 2) v := ⟨_, rfl, hdl 11 98 (by decide) rfl⟩
              obtain ⟨pva, pvn, pvc, rfl, -⟩ := pvg'.slice
              have pv := pv'
              have pvg := Lib.hid pvg'
              clear pv' pvg'
              rw [show dsts _ _ = [87, 88, 89, 90, 91, 92, 93, 94, 95, 96, 97, 98, 99, 100] from by kernel_rfl]
              simp only [List.map_cons, List.map_nil, puts, Act.put, pp, pv]
              generalize f 87 = f87
              generalize f 88 = f88
              generalize f 89 = f89
              generalize f 90 = f90
              generalize f 91 = f91
              generalize f 92 = f92
              generalize f 93 = f93
              generalize f 94 = f94
              generalize f 95 = f95
              generalize f 96 = f96
              generalize f 97 = f97
              generalize f 99 = f99
              simp only [List.setIfInBounds_toArray, List.set_cons_zero, List.set_cons_succ]
              clear hdl pp pv f
              obtain ⟨mz, hstz, hmz1, hmz2⟩ := hrt.st
              have hgoz := Lib.hid (hrt.goes (fun x => up_le N 2 x))
              have hkpz := Lib.hid hrt.kp
              have hltz := Lib.hid hrt.lt
              have hstz := Lib.hid hstz
              have hexz := Lib.hid hrt.ex
              clear hrt
              have HT := Lib.hid (hgoz.out.tb _ _ _ HGB.out)
              obtain ⟨a3, n3, c3, d3, -, -⟩ := HT.out.ldL (i := pi) (j := 1) (o := pi * 5 + 1) hpi rfl rfl
              have z3 := HT.out.fz (pi * 5 + 1)
              have hset : Goes Θw B (up N 2) wx (up N 2) (wx.setCell ⟨g, pi * 5 + 1, none⟩ (.slice pva pvn pvc)) := Goes.set (wSep 5 (by decide)) HT.out (f := .sl 2) (by rw [show (pi * 5 + 1) % Θw.sz 5 = 1 from by show (pi * 5 + 1) % 5 = 1; omega]; rfl) pvg.out
              have hks : Kept (fun b => b ≠ g) wx (wx.setCell ⟨g, pi * 5 + 1, none⟩ (.slice pva pvn pvc)) := Kept.setCell _ _ _ (fun h => h rfl)
              have hlow := HT.out.low
              have HF := Lib.hid (show GenX σ B N (up N 2) n 20000000 w0 (wx.setCell ⟨g, pi * 5 + 1, none⟩ (.slice pva pvn pvc)) mz from ⟨hstz.out.kept hks (fun j hj => by omega), by have := HGEN.out.lo; omega, by have := HGEN.out.hi; omega, (HGEN.out.kp.trans hkpz.out).trans2 hks (fun x _ hx => by have := hx.1; omega), (HGEN.out.goes.trans hgoz.out).trans hset, Nat.le_trans hltz.out hks.size⟩)
              have HGF := Lib.hid (hgoz.out.trans hset)
              clear hset hks hlow
              go_wp2_with fail
              go_meet
              exact ⟨(up N 2), mz, fun x => up_lt N 2 x, HF.out, HGF.out⟩
          · obtain ⟨a3, n3, c3, d3, -, -⟩ := HGB.out.ldL (i := pi) (j := 1) (o := pi * 5 + 1) hpi rfl rfl
            have z3 := HGB.out.fz (pi * 5 + 1)
            have hset : Goes Θw B N w5 N (w5.setCell ⟨g, pi * 5 + 1, none⟩ (.slice none 0 0)) := Goes.set (wSep 5 (by decide)) HGB.out (f := .sl 2) (by rw [show (pi * 5 + 1) % Θw.sz 5 = 1 from by show (pi * 5 + 1) % 5 = 1; omega]; rfl) (Or.inl ⟨_, rfl⟩)
            have hks : Kept (fun b => b ≠ g) w5 (w5.setCell ⟨g, pi * 5 + 1, none⟩ (.slice none 0 0)) := Kept.setCell _ _ _ (fun h => h rfl)
            have hlow := HGB.out.low
            have HF := Lib.hid (show GenX σ B N N n 20000000 w0 (w5.setCell ⟨g, pi * 5 + 1, none⟩ (.slice none 0 0)) m5 from ⟨HGEN.out.st.kept hks (fun j hj => by omega), HGEN.out.lo, by have := HGEN.out.hi; omega, HGEN.out.kp.trans2 hks (fun x _ hx => by have := hx.1; omega), HGEN.out.goes.trans hset, Nat.le_trans HGEN.out.lt hks.size⟩)
            have HGF := Lib.hid hset
            clear hset hks hlow
            go_wp2_with fail
            go_meet
            exact ⟨N, m5, fun x => by omega, HF.out, HGF.out⟩
          · have hloS : ∀ x, 8 ≤ (up N 3) x := fun x => Nat.le_trans (hlo x) (up_le N _ x)
            have hhiS : ∀ x, (up N 3) x ≤ 1000 := fun x => by have := up_lt N 3 x; have := hhi x; omega
            go_upto_region 18 with fail
            refine wp_region_ty 17 (by kernel_rfl) (by kernel_rfl) (RT Θw σ B N (up N 3) (fun _ => True) w5 m5 14 4)
              (DL [QIs (.pointer (some ⟨g, pi * 5, none⟩)), QIs (.pointer (some ⟨g, pi * 5, none⟩)), QIs (.pointer (some ⟨g, pi * 5, none⟩)), QIs (.pointer (some ⟨g, pi * 5 + 2, none⟩)), PL Θw B N (up N 3) 3, QIs (.pointer (some ⟨σ.b, 0, none⟩)), PT Θw B (up N 3) 0 3, PG Θw B (up N 3) .s, QIs (.pointer (some ⟨σ.b, 0, none⟩)), PG Θw B (up N 3) .i, QIs (.pointer (some ⟨σ.b, 0, none⟩)), PG Θw B (up N 3) .i, PA Θw B (up N 3) 3, PT Θw B (up N 3) 3 1, PG Θw B (up N 3) (.sl 3), QIs (.pointer (some ⟨g, pi * 5, none⟩)), QIs (.pointer (some ⟨g, pi * 5 + 2, none⟩))]) (fun w w' => Goes Θw B (up N 3) w (up N 3) w')
              (DL.keep (by simp only [List.forall_mem_cons, List.not_mem_nil, false_implies, implies_true, and_true]; exact ⟨QIs.stays' _, QIs.stays' _, QIs.stays' _, QIs.stays' _, PL.stays _, QIs.stays' _, PT.stays _ _, PG.stays _, QIs.stays' _, PG.stays _, QIs.stays' _, PG.stays _, PA.stays _, PT.stays _ _, PG.stays _, QIs.stays' _, QIs.stays' _⟩)) ?_ ?_ ?_
            · exact ⟨⟨m5, HST.out.keep (Kept.drew _ _), Nat.le_refl _, by omega⟩, Kept.drew _ _, HLT.out, by rw [if_neg (by decide)]; exact Goes.all (Kept.drew _ _), fun h => (by cases h), trivial⟩
            · intro i o ho hi kq L a' wx hkq hrt hL hdf hts hoth hld hdeps
              have hkz : kq < 17 := hkq
              have hz : i = 0 ∨ i = 1 ∨ i = 2 ∨ i = 3 ∨ i = 4 ∨ i = 5 ∨ i = 6 ∨ i = 7 ∨ i = 8 ∨ i = 9 ∨ i = 10 ∨ i = 11 ∨ i = 12 ∨ i = 13 ∨ i = 14 ∨ i = 15 ∨ i = 16 := by have : i < 17 := hi; omega
              rcases hz with rfl | rfl | rfl | rfl | rfl | rfl | rfl | rfl | rfl | rfl | rfl | rfl | rfl | rfl | rfl | rfl | rfl
              · obtain rfl := Option.some.inj ho
                have e : a'.tmps.getD 6 undef = .pointer (some ⟨g, pi * 5, none⟩) := tmp_of ((hoth 6 (by decide)).trans rfl)
                clear hoth hdeps hdf hts ho hld
                refine wp_via (fun K' hK => ?_)
                have HK := Lib.hid hK
                clear hK
                go_simp
                exact HK.out _ _ ⟨_, rfl, hrt.same (by decide), Goes.refl _ _ _ _, fun _ => rfl⟩
              · obtain rfl := Option.some.inj ho
                have e : a'.tmps.getD 6 undef = .pointer (some ⟨g, pi * 5, none⟩) := tmp_of ((hoth 6 (by decide)).trans rfl)
                clear hoth hdeps hdf hts ho hld
                refine wp_via (fun K' hK => ?_)
                have HK := Lib.hid hK
                clear hK
                go_simp
                exact HK.out _ _ ⟨_, rfl, hrt.same (by decide), Goes.refl _ _ _ _, fun _ => rfl⟩
              · obtain rfl := Option.some.inj ho
                have e : a'.tmps.getD 109 undef = .pointer (some ⟨g, pi * 5, none⟩) := hdeps 1 (by decide) 109 rfl
                clear hoth hdeps hdf hts ho hld
                refine wp_via (fun K' hK => ?_)
                have HK := Lib.hid hK
                clear hK
                go_simp
                exact HK.out _ _ ⟨_, rfl, hrt.same (by decide), Goes.refl _ _ _ _, fun _ => rfl⟩
              · obtain rfl := Option.some.inj ho
                have e : a'.tmps.getD 110 undef = .pointer (some ⟨g, pi * 5, none⟩) := hdeps 2 (by decide) 110 rfl
                clear hoth hdeps hdf hts ho hld
                refine wp_via (fun K' hK => ?_)
                have HK := Lib.hid hK
                clear hK
                go_simp
                exact HK.out _ _ ⟨_, rfl, hrt.same (by decide), Goes.refl _ _ _ _, fun _ => rfl⟩
              · obtain rfl := Option.some.inj ho
                have e : a'.tmps.getD 111 undef = .pointer (some ⟨g, pi * 5 + 2, none⟩) := hdeps 3 (by decide) 111 rfl
                obtain ⟨a0, n0, c0', c0, z0, g0⟩ := ((hrt.old (hrt.notyet hL)).tb _ _ _ HGB.out).ldL (i := pi) (j := 2) (o := pi * 5 + 2) hpi rfl (rfl)
                clear hoth hdeps hdf hts ho hld
                refine wp_via (fun K' hK => ?_)
                have HK := Lib.hid hK
                clear hK
                go_simp
                exact HK.out _ _ ⟨_, rfl, hrt.same (by decide), Goes.refl _ _ _ _, fun _ => ⟨_, _, _, rfl, z0, Gd.goes g0 (Goes.up (fun x => up_le N 3 x))⟩⟩
              · obtain rfl := Option.some.inj ho
                have e : a'.tmps.getD 0 undef = .pointer (some ⟨σ.b, 0, none⟩) := tmp_of ((hoth 0 (by decide)).trans rfl)
                clear hoth hdeps hdf hts ho hld
                refine wp_via (fun K' hK => ?_)
                have HK := Lib.hid hK
                clear hK
                go_simp
                exact HK.out _ _ ⟨_, rfl, hrt.same (by decide), Goes.refl _ _ _ _, fun _ => rfl⟩
              · obtain rfl := Option.some.inj ho
                clear hoth hdeps hdf hts ho hld
                refine wp_via (fun K' hK => ?_)
                have HK := Lib.hid hK
                clear hK
                go_simp
                exact HK.out _ _ ⟨_, rfl, hrt.all (by decide) (Kept.alloc _ _ _) hσ (trivial), Goes.all (Kept.alloc _ _ _), fun _ => ⟨_, rfl, TB.litN (kd := 0) (vs := [.string ⟨#[117, 110, 105]⟩, .string ⟨#[110, 111, 110, 101]⟩, .string ⟨#[108, 97, 98]⟩]) hrt.lt rfl rfl ⟨⟨_, rfl, by decide⟩, ⟨_, rfl, by decide⟩, ⟨_, rfl, by decide⟩, trivial⟩⟩⟩
              · obtain rfl := Option.some.inj ho
                have e0 : a'.tmps.getD 113 undef = .pointer (some ⟨σ.b, 0, none⟩) := hdeps 5 (by decide) 113 rfl
                obtain ⟨e1b, e1, e1t⟩ : ∃ g, a'.tmps.getD 114 undef = .slice (some ⟨g, 0, none⟩) 3 3 ∧ TB Θw B (up N 3) wx g 0 3 := hdeps 6 (by decide) 114 rfl
                obtain ⟨m, hst, hm1, hm2⟩ := hrt.st
                clear hoth hdeps hdf hts ho hld
                refine wp_via (fun K' hK => ?_)
                have HK := Lib.hid hK
                clear hK
                go_simp
                refine (some10T_any hst (by omega) hσ e1t (by decide) (by decide)).mono ?_
                rintro e w2 ⟨v, m2, rfl, ⟨r, rfl, hr⟩, hA, hB, hs2, hb2⟩
                exact HK.out _ _ ⟨_, rfl, hrt.call (by decide) hm1 hm2 hA hB (by decide) hs2 hb2 hσ (trivial), Goes.but hb2 hσ, fun _ => ⟨r, rfl, hr⟩⟩
              · obtain rfl := Option.some.inj ho
                have e : a'.tmps.getD 0 undef = .pointer (some ⟨σ.b, 0, none⟩) := tmp_of ((hoth 0 (by decide)).trans rfl)
                clear hoth hdeps hdf hts ho hld
                refine wp_via (fun K' hK => ?_)
                have HK := Lib.hid hK
                clear hK
                go_simp
                exact HK.out _ _ ⟨_, rfl, hrt.same (by decide), Goes.refl _ _ _ _, fun _ => rfl⟩
              · obtain rfl := Option.some.inj ho
                have e0 : a'.tmps.getD 116 undef = .pointer (some ⟨σ.b, 0, none⟩) := hdeps 8 (by decide) 116 rfl
                obtain ⟨m, hst, hm1, hm2⟩ := hrt.st
                clear hoth hdeps hdf hts ho hld
                refine wp_via (fun K' hK => ?_)
                have HK := Lib.hid hK
                clear hK
                go_simp
                refine (odd10_any σ m 0 100 wx hst (by omega) (by omega) (by omega) (by omega)).mono ?_
                rintro e w2 ⟨v, m2, rfl, ⟨r, rfl, hr⟩, hA, hB, hs2, hb2⟩
                exact HK.out _ _ ⟨_, rfl, hrt.call (by decide) hm1 hm2 hA hB (by decide) hs2 hb2 hσ (trivial), Goes.but hb2 hσ, fun _ => ⟨r, rfl, hr⟩⟩
              · obtain rfl := Option.some.inj ho
                have e : a'.tmps.getD 0 undef = .pointer (some ⟨σ.b, 0, none⟩) := tmp_of ((hoth 0 (by decide)).trans rfl)
                clear hoth hdeps hdf hts ho hld
                refine wp_via (fun K' hK => ?_)
                have HK := Lib.hid hK
                clear hK
                go_simp
                exact HK.out _ _ ⟨_, rfl, hrt.same (by decide), Goes.refl _ _ _ _, fun _ => rfl⟩
              · obtain rfl := Option.some.inj ho
                have e0 : a'.tmps.getD 118 undef = .pointer (some ⟨σ.b, 0, none⟩) := hdeps 10 (by decide) 118 rfl
                obtain ⟨m, hst, hm1, hm2⟩ := hrt.st
                clear hoth hdeps hdf hts ho hld
                refine wp_via (fun K' hK => ?_)
                have HK := Lib.hid hK
                clear hK
                go_simp
                refine (odd10_any σ m 1 4001 wx hst (by omega) (by omega) (by omega) (by omega)).mono ?_
                rintro e w2 ⟨v, m2, rfl, ⟨r, rfl, hr⟩, hA, hB, hs2, hb2⟩
                exact HK.out _ _ ⟨_, rfl, hrt.call (by decide) hm1 hm2 hA hB (by decide) hs2 hb2 hσ (trivial), Goes.but hb2 hσ, fun _ => ⟨r, rfl, hr⟩⟩
              · obtain rfl := Option.some.inj ho
                obtain ⟨e0s, e0, e0z⟩ : ∃ s : ByteArray, a'.tmps.getD 115 undef = .string s ∧ s.size ≤ 200 := hdeps 7 (by decide) 115 rfl
                have e0q : a'.tmps[115]?.getD undef = .string e0s := by rw [← Array.getD_eq_getD_getElem?]; exact e0
                obtain ⟨e1i, e1, e1l, e1h⟩ : ∃ z : Int, a'.tmps.getD 117 undef = .int .i64 z ∧ -2000000000000 ≤ z ∧ z ≤ 2000000000000 := hdeps 9 (by decide) 117 rfl
                have e1q : a'.tmps[117]?.getD undef = .int .i64 e1i := by rw [← Array.getD_eq_getD_getElem?]; exact e1
                obtain ⟨e2i, e2, e2l, e2h⟩ : ∃ z : Int, a'.tmps.getD 119 undef = .int .i64 z ∧ -2000000000000 ≤ z ∧ z ≤ 2000000000000 := hdeps 11 (by decide) 119 rfl
                have e2q : a'.tmps[119]?.getD undef = .int .i64 e2i := by rw [← Array.getD_eq_getD_getElem?]; exact e2
                clear hoth hdeps hdf hts ho hld
                refine wp_via (fun K' hK => ?_)
                have HK := Lib.hid hK
                clear hK
                go_simp
                exact HK.out _ _ ⟨_, rfl, hrt.same (by decide), Goes.refl _ _ _ _, fun _ => ⟨[.string e0s, .int .i64 e1i, .int .i64 e2i], rfl, ⟨_, rfl, e0z⟩, ⟨_, rfl, e1l, e1h⟩, ⟨_, rfl, e2l, e2h⟩, trivial⟩⟩
              · obtain rfl := Option.some.inj ho
                obtain ⟨e0v, e0, e0g⟩ : ∃ vs : List Value, a'.tmps.getD 120 undef = .agg vs.toArray ∧ GdL Θw B (up N 3) wx (Θw.fds 3) vs := hdeps 12 (by decide) 120 rfl
                obtain ⟨e0x0, e0x1, e0x2, rfl⟩ := inv3 e0g
                replace e0 : a'.tmps.getD 120 undef = .agg #[.string e0x0, .int .i64 e0x1, .int .i64 e0x2] := e0
                have e0q : a'.tmps[120]?.getD undef = .agg #[.string e0x0, .int .i64 e0x1, .int .i64 e0x2] := by rw [← Array.getD_eq_getD_getElem?]; exact e0
                clear hoth hdeps hdf hts ho hld
                refine wp_via (fun K' hK => ?_)
                have HK := Lib.hid hK
                clear hK
                go_simp
                exact HK.out _ _ ⟨_, rfl, hrt.all (by decide) (Kept.alloc _ _ _) hσ (trivial), Goes.all (Kept.alloc _ _ _), fun _ => ⟨_, rfl, TB.lit1 hrt.lt (by decide) e0g⟩⟩
              · obtain rfl := Option.some.inj ho
                obtain ⟨ea, en, ec, e, el, eg⟩ : ∃ a n c, a'.tmps.getD 112 undef = .slice a n c ∧ n ≤ N 3 ∧ Gd Θw B (up N 3) wx (.sl 3) (.slice a n c) := hdeps 4 (by decide) 112 rfl
                obtain ⟨xb, x, xt⟩ : ∃ g, a'.tmps.getD 121 undef = .slice (some ⟨g, 0, none⟩) 1 1 ∧ TB Θw B (up N 3) wx g 3 1 := hdeps 13 (by decide) 121 rfl
                have hlc : L 4 = true := hld 4 (by decide)
                clear hoth hdeps hdf hts ho hld
                refine wp_via (fun K' hK => ?_)
                have HK := Lib.hid hK
                clear hK
                refine op_append_tt wOk3 (wSep 3 (by decide)) wx _ _ rfl (ea) en ec e eg _ 1 1 x xt (by decide) (by decide) (up N 3) (fun _ => Nat.le_refl _) (by have := el; have := up_at N 3; omega) (by have := hhiS 3; omega) hrt.lt ?_
                intro p' c' w' hA
                exact HK.out _ _ ⟨_, rfl, hrt.app hlc (fun x => up_le N 3 x) eg hA hσ (trivial), hA.goes, fun _ => hA.gd⟩
              · obtain rfl := Option.some.inj ho
                have e : a'.tmps.getD 108 undef = .pointer (some ⟨g, pi * 5, none⟩) := hdeps 0 (by decide) 108 rfl
                clear hoth hdeps hdf hts ho hld
                refine wp_via (fun K' hK => ?_)
                have HK := Lib.hid hK
                clear hK
                go_simp
                exact HK.out _ _ ⟨_, rfl, hrt.same (by decide), Goes.refl _ _ _ _, fun _ => rfl⟩
              · obtain rfl := Option.some.inj ho
                have e : a'.tmps.getD 123 undef = .pointer (some ⟨g, pi * 5, none⟩) := hdeps 15 (by decide) 123 rfl
                clear hoth hdeps hdf hts ho hld
                refine wp_via (fun K' hK => ?_)
                have HK := Lib.hid hK
                clear hK
                go_simp
                exact HK.out _ _ ⟨_, rfl, hrt.same (by decide), Goes.refl _ _ _ _, fun _ => rfl⟩
            · intro L wx f hrt hdl
              have pp : f 124 = .pointer (some ⟨g, pi * 5 + 2, none⟩) := hdl 16 124 (by decide) rfl
              obtain ⟨pvv, pv', pvg'⟩ : ∃ v, f 122 = v ∧ Gd Θw B (up N 3) wx (.sl 3) v := ⟨_, rfl, hdl 14 122 (by decide) rfl⟩
              obtain ⟨pva, pvn, pvc, rfl, -⟩ := pvg'.slice
              have pv := pv'
              have pvg := Lib.hid pvg'
              clear pv' pvg'
              rw [show dsts _ _ = [108, 109, 110, 111, 112, 113, 114, 115, 116, 117, 118, 119, 120, 121, 122, 123, 124] from by kernel_rfl]
              simp only [List.map_cons, List.map_nil, puts, Act.put, pp, pv]
              generalize f 108 = f108
              generalize f 109 = f109
              generalize f 110 = f110
              generalize f 111 = f111
              generalize f 112 = f112
              generalize f 113 = f113
              generalize f 114 = f114
              generalize f 115 = f115
              generalize f 116 = f116
              generalize f 117 = f117
              generalize f 118 = f118
              generalize f 119 = f119
              generalize f 120 = f120
              generalize f 121 = f121
              generalize f 123 = f123
              simp only [List.setIfInBounds_toArray, List.set_cons_zero, List.set_cons_succ]
              clear hdl pp pv f
              obtain ⟨mz, hstz, hmz1, hmz2⟩ := hrt.st
              have hgoz := Lib.hid (hrt.goes (fun x => up_le N 3 x))
              have hkpz := Lib.hid hrt.kp
              have hltz := Lib.hid hrt.lt
              have hstz := Lib.hid hstz
              have hexz := Lib.hid hrt.ex
              clear hrt
              have HT := Lib.hid (hgoz.out.tb _ _ _ HGB.out)
              obtain ⟨a3, n3, c3, d3, -, -⟩ := HT.out.ldL (i := pi) (j := 2) (o := pi * 5 + 2) hpi rfl rfl
              have z3 := HT.out.fz (pi * 5 + 2)
              have hset : Goes Θw B (up N 3) wx (up N 3) (wx.setCell ⟨g, pi * 5 + 2, none⟩ (.slice pva pvn pvc)) := Goes.set (wSep 5 (by decide)) HT.out (f := .sl 3) (by rw [show (pi * 5 + 2) % Θw.sz 5 = 2 from by show (pi * 5 + 2) % 5 = 2; omega]; rfl) pvg.out
              have hks : Kept (fun b => b ≠ g) wx (wx.setCell ⟨g, pi * 5 + 2, none⟩ (.slice pva pvn pvc)) := Kept.setCell _ _ _ (fun h => h rfl)
              have hlow := HT.out.low
              have HF := Lib.hid (show GenX σ B N (up N 3) n 20000000 w0 (wx.setCell ⟨g, pi * 5 + 2, none⟩ (.slice pva pvn pvc)) mz from ⟨hstz.out.kept hks (fun j hj => by omega), by have := HGEN.out.lo; omega, by have := HGEN.out.hi; omega, (HGEN.out.kp.trans hkpz.out).trans2 hks (fun x _ hx => by have := hx.1; omega), (HGEN.out.goes.trans hgoz.out).trans hset, Nat.le_trans hltz.out hks.size⟩)
              have HGF := Lib.hid (hgoz.out.trans hset)
              clear hset hks hlow
              go_wp2_with fail
              go_meet
              exact ⟨(up N 3), mz, fun x => up_lt N 3 x, HF.out, HGF.out⟩
          · have hloS : ∀ x, 8 ≤ (up N 0) x := fun x => Nat.le_trans (hlo x) (up_le N _ x)
            have hhiS : ∀ x, (up N 0) x ≤ 1000 := fun x => by have := up_lt N 0 x; have := hhi x; omega
            go_upto_region 20 with fail
            refine wp_region_ty 17 (by kernel_rfl) (by kernel_rfl) (RT Θw σ B N (up N 0) (fun _ => True) w5 m5 14 4)
              (DL [QIs (.pointer (some ⟨g, pi * 5, none⟩)), QIs (.pointer (some ⟨g, pi * 5, none⟩)), QIs (.pointer (some ⟨g, pi * 5, none⟩)), QIs (.pointer (some ⟨g, pi * 5 + 3, none⟩)), PL Θw B N (up N 0) 0, QIs (.pointer (some ⟨σ.b, 0, none⟩)), QIs (.pointer (some ⟨σ.b, 0, none⟩)), PT Θw B (up N 0) 10 2, PR (0) (101), PZ 101, PZ 104, PT Θw B (up N 0) 0 8, PG Θw B (up N 0) .s, PT Θw B (up N 0) 0 1, PG Θw B (up N 0) (.sl 0), QIs (.pointer (some ⟨g, pi * 5, none⟩)), QIs (.pointer (some ⟨g, pi * 5 + 3, none⟩))]) (fun w w' => Goes Θw B (up N 0) w (up N 0) w')
              (DL.keep (by simp only [List.forall_mem_cons, List.not_mem_nil, false_implies, implies_true, and_true]; exact ⟨QIs.stays' _, QIs.stays' _, QIs.stays' _, QIs.stays' _, PL.stays _, QIs.stays' _, QIs.stays' _, PT.stays _ _, PR.stays _ _, PZ.stays _, PZ.stays _, PT.stays _ _, PG.stays _, PT.stays _ _, PG.stays _, QIs.stays' _, QIs.stays' _⟩)) ?_ ?_ ?_
            · exact ⟨⟨m5, HST.out.keep (Kept.drew _ _), Nat.le_refl _, by omega⟩, Kept.drew _ _, HLT.out, by rw [if_neg (by decide)]; exact Goes.all (Kept.drew _ _), fun h => (by cases h), trivial⟩
            · intro i o ho hi kq L a' wx hkq hrt hL hdf hts hoth hld hdeps
              have hkz : kq < 17 := hkq
              have hz : i = 0 ∨ i = 1 ∨ i = 2 ∨ i = 3 ∨ i = 4 ∨ i = 5 ∨ i = 6 ∨ i = 7 ∨ i = 8 ∨ i = 9 ∨ i = 10 ∨ i = 11 ∨ i = 12 ∨ i = 13 ∨ i = 14 ∨ i = 15 ∨ i = 16 := by have : i < 17 := hi; omega
              rcases hz with rfl | rfl | rfl | rfl | rfl | rfl | rfl | rfl | rfl | rfl | rfl | rfl | rfl | rfl | rfl | rfl | rfl
              · obtain rfl := Option.some.inj ho
                have e : a'.tmps.getD 6 undef = .pointer (some ⟨g, pi * 5, none⟩) := tmp_of ((hoth 6 (by decide)).trans rfl)
                clear hoth hdeps hdf hts ho hld
                refine wp_via (fun K' hK => ?_)
                have HK := Lib.hid hK
                clear hK
                go_simp
                exact HK.out _ _ ⟨_, rfl, hrt.same (by decide), Goes.refl _ _ _ _, fun _ => rfl⟩
              · obtain rfl := Option.some.inj ho
                have e : a'.tmps.getD 6 undef = .pointer (some ⟨g, pi * 5, none⟩) := tmp_of ((hoth 6 (by decide)).trans rfl)
                clear hoth hdeps hdf hts ho hld
                refine wp_via (fun K' hK => ?_)
                have HK := Lib.hid hK
                clear hK
                go_simp
                exact HK.out _ _ ⟨_, rfl, hrt.same (by decide), Goes.refl _ _ _ _, fun _ => rfl⟩
              · obtain rfl := Option.some.inj ho
                have e : a'.tmps.getD 128 undef = .pointer (some ⟨g, pi * 5, none⟩) := hdeps 1 (by decide) 128 rfl
                clear hoth hdeps hdf hts ho hld
                refine wp_via (fun K' hK => ?_)
                have HK := Lib.hid hK
                clear hK
                go_simp
                exact HK.out _ _ ⟨_, rfl, hrt.same (by decide), Goes.refl _ _ _ _, fun _ => rfl⟩
              · obtain rfl := Option.some.inj ho
                have e : a'.tmps.getD 129 undef = .pointer (some ⟨g, pi * 5, none⟩) := hdeps 2 (by decide) 129 rfl
                clear hoth hdeps hdf hts ho hld
                refine wp_via (fun K' hK => ?_)
                have HK := Lib.hid hK
                clear hK
                go_simp
                exact HK.out _ _ ⟨_, rfl, hrt.same (by decide), Goes.refl _ _ _ _, fun _ => rfl⟩
              · obtain rfl := Option.some.inj ho
                have e : a'.tmps.getD 130 undef = .pointer (some ⟨g, pi * 5 + 3, none⟩) := hdeps 3 (by decide) 130 rfl
                obtain ⟨a0, n0, c0', c0, z0, g0⟩ := ((hrt.old (hrt.notyet hL)).tb _ _ _ HGB.out).ldL (i := pi) (j := 3) (o := pi * 5 + 3) hpi rfl (rfl)
                clear hoth hdeps hdf hts ho hld
                refine wp_via (fun K' hK => ?_)
                have HK := Lib.hid hK
                clear hK
                go_simp
                exact HK.out _ _ ⟨_, rfl, hrt.same (by decide), Goes.refl _ _ _ _, fun _ => ⟨_, _, _, rfl, z0, Gd.goes g0 (Goes.up (fun x => up_le N 0 x))⟩⟩
              · obtain rfl := Option.some.inj ho
                have e : a'.tmps.getD 0 undef = .pointer (some ⟨σ.b, 0, none⟩) := tmp_of ((hoth 0 (by decide)).trans rfl)
                clear hoth hdeps hdf hts ho hld
                refine wp_via (fun K' hK => ?_)
                have HK := Lib.hid hK
                clear hK
                go_simp
                exact HK.out _ _ ⟨_, rfl, hrt.same (by decide), Goes.refl _ _ _ _, fun _ => rfl⟩
              · obtain rfl := Option.some.inj ho
                have e : a'.tmps.getD 0 undef = .pointer (some ⟨σ.b, 0, none⟩) := tmp_of ((hoth 0 (by decide)).trans rfl)
                clear hoth hdeps hdf hts ho hld
                refine wp_via (fun K' hK => ?_)
                have HK := Lib.hid hK
                clear hK
                go_simp
                exact HK.out _ _ ⟨_, rfl, hrt.same (by decide), Goes.refl _ _ _ _, fun _ => rfl⟩
              · obtain rfl := Option.some.inj ho
                clear hoth hdeps hdf hts ho hld
                refine wp_via (fun K' hK => ?_)
                have HK := Lib.hid hK
                clear hK
                go_simp
                exact HK.out _ _ ⟨_, rfl, hrt.all (by decide) (Kept.alloc _ _ _) hσ (trivial), Goes.all (Kept.alloc _ _ _), fun _ => ⟨_, rfl, TB.litN (kd := 10) (vs := [.int .i64 77, .int .i64 78]) hrt.lt rfl rfl ⟨⟨_, rfl, by decide, by decide⟩, ⟨_, rfl, by decide, by decide⟩, trivial⟩⟩⟩
              · obtain rfl := Option.some.inj ho
                have e0 : a'.tmps.getD 133 undef = .pointer (some ⟨σ.b, 0, none⟩) := hdeps 6 (by decide) 133 rfl
                obtain ⟨e1b, e1, e1t⟩ : ∃ g, a'.tmps.getD 134 undef = .slice (some ⟨g, 0, none⟩) 2 2 ∧ TB Θw B (up N 0) wx g 10 2 := hdeps 7 (by decide) 134 rfl
                obtain ⟨m, hst, hm1, hm2⟩ := hrt.st
                clear hoth hdeps hdf hts ho hld
                refine wp_via (fun K' hK => ?_)
                have HK := Lib.hid hK
                clear hK
                go_simp
                refine (pickR_any hst (by omega) hσ e1t rfl (by decide) (by decide)).mono ?_
                rintro e w2 ⟨v, m2, rfl, ⟨r, rfl, hr⟩, hA, hB, hs2, hb2⟩
                exact HK.out _ _ ⟨_, rfl, hrt.call (by decide) hm1 hm2 hA hB (by decide) hs2 hb2 hσ (trivial), Goes.but hb2 hσ, fun _ => ⟨r, rfl, hr⟩⟩
              · obtain rfl := Option.some.inj ho
                obtain ⟨e1i, e1, e1l, e1h⟩ : ∃ z : Int, a'.tmps.getD 135 undef = .int .i64 z ∧ 0 ≤ z ∧ z ≤ 101 := hdeps 8 (by decide) 135 rfl
                obtain ⟨ck, rfl⟩ := Int.eq_ofNat_of_zero_le e1l
                clear hoth hdeps hdf hts ho hld
                refine wp_via (fun K' hK => ?_)
                have HK := Lib.hid hK
                clear hK
                go_simp
                refine (repeat_any ⟨#[109]⟩ ck wx rfl (by omega)).mono ?_
                rintro e w2 ⟨⟨r, rfl, hr⟩, hk2⟩
                exact HK.out _ _ ⟨_, rfl, hrt.all (by decide) hk2 hσ (trivial), Goes.all hk2, fun _ => ⟨_, rfl, hr⟩⟩
              · obtain rfl := Option.some.inj ho
                obtain ⟨es, e, ez⟩ : ∃ s : ByteArray, a'.tmps.getD 136 undef = .string s ∧ s.size ≤ 101 := hdeps 9 (by decide) 136 rfl
                obtain ⟨r, hrun, hrz⟩ := cat_lit es ⟨#[64, 120, 121]⟩ 101 3 ez (by decide) (by decide)
                have hrun := hrun wx
                clear hoth hdeps hdf hts ho hld
                refine wp_via (fun K' hK => ?_)
                have HK := Lib.hid hK
                clear hK
                go_simp
                exact HK.out _ _ ⟨_, rfl, hrt.same (by decide), Goes.refl _ _ _ _, fun _ => ⟨_, rfl, hrz⟩⟩
              · obtain rfl := Option.some.inj ho
                obtain ⟨e7s, e7, e7z⟩ : ∃ s : ByteArray, a'.tmps.getD 137 undef = .string s ∧ s.size ≤ 104 := hdeps 10 (by decide) 137 rfl
                have e7q : a'.tmps[137]?.getD undef = .string e7s := by rw [← Array.getD_eq_getD_getElem?]; exact e7
                clear hoth hdeps hdf hts ho hld
                refine wp_via (fun K' hK => ?_)
                have HK := Lib.hid hK
                clear hK
                go_simp
                exact HK.out _ _ ⟨_, rfl, hrt.all (by decide) (Kept.alloc _ _ _) hσ (trivial), Goes.all (Kept.alloc _ _ _), fun _ => ⟨_, rfl, TB.litN (kd := 0) (vs := [.string ⟨#[97]⟩, .string ⟨#[64, 97]⟩, .string ⟨#[97, 64]⟩, .string ⟨#[97, 64, 98, 64, 99]⟩, .string ⟨#[65, 64, 98]⟩, .string ⟨#[97, 32, 98, 64, 99]⟩, .string ⟨#[97, 97, 64, 98]⟩, .string e7s]) hrt.lt rfl rfl ⟨⟨_, rfl, by decide⟩, ⟨_, rfl, by decide⟩, ⟨_, rfl, by decide⟩, ⟨_, rfl, by decide⟩, ⟨_, rfl, by decide⟩, ⟨_, rfl, by decide⟩, ⟨_, rfl, by decide⟩, ⟨_, rfl, Nat.le_trans e7z (by decide)⟩, trivial⟩⟩⟩
              · obtain rfl := Option.some.inj ho
                have e0 : a'.tmps.getD 132 undef = .pointer (some ⟨σ.b, 0, none⟩) := hdeps 5 (by decide) 132 rfl
                obtain ⟨e1b, e1, e1t⟩ : ∃ g, a'.tmps.getD 138 undef = .slice (some ⟨g, 0, none⟩) 8 8 ∧ TB Θw B (up N 0) wx g 0 8 := hdeps 11 (by decide) 138 rfl
                obtain ⟨m, hst, hm1, hm2⟩ := hrt.st
                clear hoth hdeps hdf hts ho hld
                refine wp_via (fun K' hK => ?_)
                have HK := Lib.hid hK
                clear hK
                go_simp
                refine (some10T_any hst (by omega) hσ e1t (by decide) (by decide)).mono ?_
                rintro e w2 ⟨v, m2, rfl, ⟨r, rfl, hr⟩, hA, hB, hs2, hb2⟩
                exact HK.out _ _ ⟨_, rfl, hrt.call (by decide) hm1 hm2 hA hB (by decide) hs2 hb2 hσ (trivial), Goes.but hb2 hσ, fun _ => ⟨r, rfl, hr⟩⟩
              · obtain rfl := Option.some.inj ho
                obtain ⟨e0s, e0, e0z⟩ : ∃ s : ByteArray, a'.tmps.getD 139 undef = .string s ∧ s.size ≤ 200 := hdeps 12 (by decide) 139 rfl
                have e0q : a'.tmps[139]?.getD undef = .string e0s := by rw [← Array.getD_eq_getD_getElem?]; exact e0
                clear hoth hdeps hdf hts ho hld
                refine wp_via (fun K' hK => ?_)
                have HK := Lib.hid hK
                clear hK
                go_simp
                exact HK.out _ _ ⟨_, rfl, hrt.all (by decide) (Kept.alloc _ _ _) hσ (trivial), Goes.all (Kept.alloc _ _ _), fun _ => ⟨_, rfl, TB.litN (kd := 0) (vs := [.string e0s]) hrt.lt rfl rfl ⟨⟨_, rfl, e0z⟩, trivial⟩⟩⟩
              · obtain rfl := Option.some.inj ho
                obtain ⟨ea, en, ec, e, el, eg⟩ : ∃ a n c, a'.tmps.getD 131 undef = .slice a n c ∧ n ≤ N 0 ∧ Gd Θw B (up N 0) wx (.sl 0) (.slice a n c) := hdeps 4 (by decide) 131 rfl
                obtain ⟨xb, x, xt⟩ : ∃ g, a'.tmps.getD 140 undef = .slice (some ⟨g, 0, none⟩) 1 1 ∧ TB Θw B (up N 0) wx g 0 1 := hdeps 13 (by decide) 140 rfl
                have hlc : L 4 = true := hld 4 (by decide)
                clear hoth hdeps hdf hts ho hld
                refine wp_via (fun K' hK => ?_)
                have HK := Lib.hid hK
                clear hK
                refine op_append_tt wOk0 (wSep 0 (by decide)) wx _ _ rfl (ea) en ec e eg _ 1 1 x xt (by decide) (by decide) (up N 0) (fun _ => Nat.le_refl _) (by have := el; have := up_at N 0; omega) (by have := hhiS 0; omega) hrt.lt ?_
                intro p' c' w' hA
                exact HK.out _ _ ⟨_, rfl, hrt.app hlc (fun x => up_le N 0 x) eg hA hσ (trivial), hA.goes, fun _ => hA.gd⟩
              · obtain rfl := Option.some.inj ho
                have e : a'.tmps.getD 127 undef = .pointer (some ⟨g, pi * 5, none⟩) := hdeps 0 (by decide) 127 rfl
                clear hoth hdeps hdf hts ho hld
                refine wp_via (fun K' hK => ?_)
                have HK := Lib.hid hK
                clear hK
                go_simp
                exact HK.out _ _ ⟨_, rfl, hrt.same (by decide), Goes.refl _ _ _ _, fun _ => rfl⟩
              · obtain rfl := Option.some.inj ho
                have e : a'.tmps.getD 142 undef = .pointer (some ⟨g, pi * 5, none⟩) := hdeps 15 (by decide) 142 rfl
                clear hoth hdeps hdf hts ho hld
                refine wp_via (fun K' hK => ?_)
                have HK := Lib.hid hK
                clear hK
                go_simp
                exact HK.out _ _ ⟨_, rfl, hrt.same (by decide), Goes.refl _ _ _ _, fun _ => rfl⟩
            · intro L wx f hrt hdl
              have pp : f 143 = .pointer (some ⟨g, pi * 5 + 3, none⟩) := hdl 16 143 (by decide) rfl
              obtain ⟨pvv, pv', pvg'⟩ : ∃ v, f 141 = v ∧ Gd Θw B (up N 0) wx (.sl 0) v := ⟨_, rfl, hdl 14 141 (by decide) rfl⟩
              obtain ⟨pva, pvn, pvc, rfl, -⟩ := pvg'.slice
              have pv := pv'
              have pvg := Lib.hid pvg'
              clear pv' pvg'
              rw [show dsts _ _ = [127, 128, 129, 130, 131, 132, 133, 134, 135, 136, 137, 138, 139, 140, 141, 142, 143] from by kernel_rfl]
              simp only [List.map_cons, List.map_nil, puts, Act.put, pp, pv]
              generalize f 127 = f127
              generalize f 128 = f128
              generalize f 129 = f129
              generalize f 130 = f130
              generalize f 131 = f131
              generalize f 132 = f132
              generalize f 133 = f133
              generalize f 134 = f134
              generalize f 135 = f135
              generalize f 136 = f136
              generalize f 137 = f137
              generalize f 138 = f138
              generalize f 139 = f139
              generalize f 140 = f140
              generalize f 142 = f142
              simp only [List.setIfInBounds_toArray, List.set_cons_zero, List.set_cons_succ]
              clear hdl pp pv f
              obtain ⟨mz, hstz, hmz1, hmz2⟩ := hrt.st
              have hgoz := Lib.hid (hrt.goes (fun x => up_le N 0 x))
              have hkpz := Lib.hid hrt.kp
              have hltz := Lib.hid hrt.lt
              have hstz := Lib.hid hstz
              have hexz := Lib.hid hrt.ex
              clear hrt
              have HT := Lib.hid (hgoz.out.tb _ _ _ HGB.out)
              obtain ⟨a3, n3, c3, d3, -, -⟩ := HT.out.ldL (i := pi) (j := 3) (o := pi * 5 + 3) hpi rfl rfl
              have z3 := HT.out.fz (pi * 5 + 3)
              have hset : Goes Θw B (up N 0) wx (up N 0) (wx.setCell ⟨g, pi * 5 + 3, none⟩ (.slice pva pvn pvc)) := Goes.set (wSep 5 (by decide)) HT.out (f := .sl 0) (by rw [show (pi * 5 + 3) % Θw.sz 5 = 3 from by show (pi * 5 + 3) % 5 = 3; omega]; rfl) pvg.out
              have hks : Kept (fun b => b ≠ g) wx (wx.setCell ⟨g, pi * 5 + 3, none⟩ (.slice pva pvn pvc)) := Kept.setCell _ _ _ (fun h => h rfl)
              have hlow := HT.out.low
              have HF := Lib.hid (show GenX σ B N (up N 0) n 20000000 w0 (wx.setCell ⟨g, pi * 5 + 3, none⟩ (.slice pva pvn pvc)) mz from ⟨hstz.out.kept hks (fun j hj => by omega), by have := HGEN.out.lo; omega, by have := HGEN.out.hi; omega, (HGEN.out.kp.trans hkpz.out).trans2 hks (fun x _ hx => by have := hx.1; omega), (HGEN.out.goes.trans hgoz.out).trans hset, Nat.le_trans hltz.out hks.size⟩)
              have HGF := Lib.hid (hgoz.out.trans hset)
              clear hset hks hlow
              go_wp2_with fail
              go_meet
              exact ⟨(up N 0), mz, fun x => up_lt N 0 x, HF.out, HGF.out⟩
          · have hloS : ∀ x, 8 ≤ (up N 0) x := fun x => Nat.le_trans (hlo x) (up_le N _ x)
            have hhiS : ∀ x, (up N 0) x ≤ 1000 := fun x => by have := up_lt N 0 x; have := hhi x; omega
            go_upto_region 22 with fail
            refine wp_region_ty 16 (by kernel_rfl) (by kernel_rfl) (RT Θw σ B N (up N 0) (fun _ => True) w5 m5 13 4)
              (DL [QIs (.pointer (some ⟨g, pi * 5, none⟩)), QIs (.pointer (some ⟨g, pi * 5, none⟩)), QIs (.pointer (some ⟨g, pi * 5, none⟩)), QIs (.pointer (some ⟨g, pi * 5 + 4, none⟩)), PL Θw B N (up N 0) 0, QIs (.pointer (some ⟨σ.b, 0, none⟩)), QIs (.pointer (some ⟨g, pi * 5, none⟩)), QIs (.pointer (some ⟨g, pi * 5, none⟩)), QIs (.pointer (some ⟨g, pi * 5, none⟩)), PG Θw B (up N 0) .s, PT Θw B (up N 0) 0 5, PG Θw B (up N 0) .s, PT Θw B (up N 0) 0 1, PG Θw B (up N 0) (.sl 0), QIs (.pointer (some ⟨g, pi * 5, none⟩)), QIs (.pointer (some ⟨g, pi * 5 + 4, none⟩))]) (fun w w' => Goes Θw B (up N 0) w (up N 0) w')
              (DL.keep (by simp only [List.forall_mem_cons, List.not_mem_nil, false_implies, implies_true, and_true]; exact ⟨QIs.stays' _, QIs.stays' _, QIs.stays' _, QIs.stays' _, PL.stays _, QIs.stays' _, QIs.stays' _, QIs.stays' _, QIs.stays' _, PG.stays _, PT.stays _ _, PG.stays _, PT.stays _ _, PG.stays _, QIs.stays' _, QIs.stays' _⟩)) ?_ ?_ ?_
            · exact ⟨⟨m5, HST.out.keep (Kept.drew _ _), Nat.le_refl _, by omega⟩, Kept.drew _ _, HLT.out, by rw [if_neg (by decide)]; exact Goes.all (Kept.drew _ _), fun h => (by cases h), trivial⟩
            · intro i o ho hi kq L a' wx hkq hrt hL hdf hts hoth hld hdeps
              have hkz : kq < 16 := hkq
              have hz : i = 0 ∨ i = 1 ∨ i = 2 ∨ i = 3 ∨ i = 4 ∨ i = 5 ∨ i = 6 ∨ i = 7 ∨ i = 8 ∨ i = 9 ∨ i = 10 ∨ i = 11 ∨ i = 12 ∨ i = 13 ∨ i = 14 ∨ i = 15 := by have : i < 16 := hi; omega
              rcases hz with rfl | rfl | rfl | rfl | rfl | rfl | rfl | rfl | rfl | rfl | rfl | rfl | rfl | rfl | rfl | rfl
              · obtain rfl := Option.some.inj ho
                have e : a'.tmps.getD 6 undef = .pointer (some ⟨g, pi * 5, none⟩) := tmp_of ((hoth 6 (by decide)).trans rfl)
                clear hoth hdeps hdf hts ho hld
                refine wp_via (fun K' hK => ?_)
                have HK := Lib.hid hK
                clear hK
                go_simp
                exact HK.out _ _ ⟨_, rfl, hrt.same (by decide), Goes.refl _ _ _ _, fun _ => rfl⟩
              · obtain rfl := Option.some.inj ho
                have e : a'.tmps.getD 6 undef = .pointer (some ⟨g, pi * 5, none⟩) := tmp_of ((hoth 6 (by decide)).trans rfl)
                clear hoth hdeps hdf hts ho hld
                refine wp_via (fun K' hK => ?_)
                have HK := Lib.hid hK
                clear hK
                go_simp
                exact HK.out _ _ ⟨_, rfl, hrt.same (by decide), Goes.refl _ _ _ _, fun _ => rfl⟩
              · obtain rfl := Option.some.inj ho
                have e : a'.tmps.getD 147 undef = .pointer (some ⟨g, pi * 5, none⟩) := hdeps 1 (by decide) 147 rfl
                clear hoth hdeps hdf hts ho hld
                refine wp_via (fun K' hK => ?_)
                have HK := Lib.hid hK
                clear hK
                go_simp
                exact HK.out _ _ ⟨_, rfl, hrt.same (by decide), Goes.refl _ _ _ _, fun _ => rfl⟩
              · obtain rfl := Option.some.inj ho
                have e : a'.tmps.getD 148 undef = .pointer (some ⟨g, pi * 5, none⟩) := hdeps 2 (by decide) 148 rfl
                clear hoth hdeps hdf hts ho hld
                refine wp_via (fun K' hK => ?_)
                have HK := Lib.hid hK
                clear hK
                go_simp
                exact HK.out _ _ ⟨_, rfl, hrt.same (by decide), Goes.refl _ _ _ _, fun _ => rfl⟩
              · obtain rfl := Option.some.inj ho
                have e : a'.tmps.getD 149 undef = .pointer (some ⟨g, pi * 5 + 4, none⟩) := hdeps 3 (by decide) 149 rfl
                obtain ⟨a0, n0, c0', c0, z0, g0⟩ := ((hrt.old (hrt.notyet hL)).tb _ _ _ HGB.out).ldL (i := pi) (j := 4) (o := pi * 5 + 4) hpi rfl (rfl)
                clear hoth hdeps hdf hts ho hld
                refine wp_via (fun K' hK => ?_)
                have HK := Lib.hid hK
                clear hK
                go_simp
                exact HK.out _ _ ⟨_, rfl, hrt.same (by decide), Goes.refl _ _ _ _, fun _ => ⟨_, _, _, rfl, z0, Gd.goes g0 (Goes.up (fun x => up_le N 0 x))⟩⟩
              · obtain rfl := Option.some.inj ho
                have e : a'.tmps.getD 0 undef = .pointer (some ⟨σ.b, 0, none⟩) := tmp_of ((hoth 0 (by decide)).trans rfl)
                clear hoth hdeps hdf hts ho hld
                refine wp_via (fun K' hK => ?_)
                have HK := Lib.hid hK
                clear hK
                go_simp
                exact HK.out _ _ ⟨_, rfl, hrt.same (by decide), Goes.refl _ _ _ _, fun _ => rfl⟩
              · obtain rfl := Option.some.inj ho
                have e : a'.tmps.getD 6 undef = .pointer (some ⟨g, pi * 5, none⟩) := tmp_of ((hoth 6 (by decide)).trans rfl)
                clear hoth hdeps hdf hts ho hld
                refine wp_via (fun K' hK => ?_)
                have HK := Lib.hid hK
                clear hK
                go_simp
                exact HK.out _ _ ⟨_, rfl, hrt.same (by decide), Goes.refl _ _ _ _, fun _ => rfl⟩
              · obtain rfl := Option.some.inj ho
                have e : a'.tmps.getD 152 undef = .pointer (some ⟨g, pi * 5, none⟩) := hdeps 6 (by decide) 152 rfl
                clear hoth hdeps hdf hts ho hld
                refine wp_via (fun K' hK => ?_)
                have HK := Lib.hid hK
                clear hK
                go_simp
                exact HK.out _ _ ⟨_, rfl, hrt.same (by decide), Goes.refl _ _ _ _, fun _ => rfl⟩
              · obtain rfl := Option.some.inj ho
                have e : a'.tmps.getD 153 undef = .pointer (some ⟨g, pi * 5, none⟩) := hdeps 7 (by decide) 153 rfl
                clear hoth hdeps hdf hts ho hld
                refine wp_via (fun K' hK => ?_)
                have HK := Lib.hid hK
                clear hK
                go_simp
                exact HK.out _ _ ⟨_, rfl, hrt.same (by decide), Goes.refl _ _ _ _, fun _ => rfl⟩
              · obtain rfl := Option.some.inj ho
                have e : a'.tmps.getD 154 undef = .pointer (some ⟨g, pi * 5, none⟩) := hdeps 8 (by decide) 154 rfl
                obtain ⟨s0, c0, z0⟩ := ((hrt.goes (fun x => up_le N 0 x)).tb _ _ _ HGB.out).ldS (i := pi) (j := 0) (o := pi * 5) hpi rfl (rfl)
                clear hoth hdeps hdf hts ho hld
                refine wp_via (fun K' hK => ?_)
                have HK := Lib.hid hK
                clear hK
                go_simp
                exact HK.out _ _ ⟨_, rfl, hrt.same (by decide), Goes.refl _ _ _ _, fun _ => ⟨_, rfl, z0⟩⟩
              · obtain rfl := Option.some.inj ho
                obtain ⟨e2s, e2, e2z⟩ : ∃ s : ByteArray, a'.tmps.getD 155 undef = .string s ∧ s.size ≤ 200 := hdeps 9 (by decide) 155 rfl
                have e2q : a'.tmps[155]?.getD undef = .string e2s := by rw [← Array.getD_eq_getD_getElem?]; exact e2
                clear hoth hdeps hdf hts ho hld
                refine wp_via (fun K' hK => ?_)
                have HK := Lib.hid hK
                clear hK
                go_simp
                exact HK.out _ _ ⟨_, rfl, hrt.all (by decide) (Kept.alloc _ _ _) hσ (trivial), Goes.all (Kept.alloc _ _ _), fun _ => ⟨_, rfl, TB.litN (kd := 0) (vs := [.string ⟨#[]⟩, .string ⟨#[65]⟩, .string e2s, .string ⟨#[110, 111, 110, 101]⟩, .string ⟨#[103, 117, 115]⟩]) hrt.lt rfl rfl ⟨⟨_, rfl, by decide⟩, ⟨_, rfl, by decide⟩, ⟨_, rfl, e2z⟩, ⟨_, rfl, by decide⟩, ⟨_, rfl, by decide⟩, trivial⟩⟩⟩
              · obtain rfl := Option.some.inj ho
                have e0 : a'.tmps.getD 151 undef = .pointer (some ⟨σ.b, 0, none⟩) := hdeps 5 (by decide) 151 rfl
                obtain ⟨e1b, e1, e1t⟩ : ∃ g, a'.tmps.getD 156 undef = .slice (some ⟨g, 0, none⟩) 5 5 ∧ TB Θw B (up N 0) wx g 0 5 := hdeps 10 (by decide) 156 rfl
                obtain ⟨m, hst, hm1, hm2⟩ := hrt.st
                clear hoth hdeps hdf hts ho hld
                refine wp_via (fun K' hK => ?_)
                have HK := Lib.hid hK
                clear hK
                go_simp
                refine (some10T_any hst (by omega) hσ e1t (by decide) (by decide)).mono ?_
                rintro e w2 ⟨v, m2, rfl, ⟨r, rfl, hr⟩, hA, hB, hs2, hb2⟩
                exact HK.out _ _ ⟨_, rfl, hrt.call (by decide) hm1 hm2 hA hB (by decide) hs2 hb2 hσ (trivial), Goes.but hb2 hσ, fun _ => ⟨r, rfl, hr⟩⟩
              · obtain rfl := Option.some.inj ho
                obtain ⟨e0s, e0, e0z⟩ : ∃ s : ByteArray, a'.tmps.getD 157 undef = .string s ∧ s.size ≤ 200 := hdeps 11 (by decide) 157 rfl
                have e0q : a'.tmps[157]?.getD undef = .string e0s := by rw [← Array.getD_eq_getD_getElem?]; exact e0
                clear hoth hdeps hdf hts ho hld
                refine wp_via (fun K' hK => ?_)
                have HK := Lib.hid hK
                clear hK
                go_simp
                exact HK.out _ _ ⟨_, rfl, hrt.all (by decide) (Kept.alloc _ _ _) hσ (trivial), Goes.all (Kept.alloc _ _ _), fun _ => ⟨_, rfl, TB.litN (kd := 0) (vs := [.string e0s]) hrt.lt rfl rfl ⟨⟨_, rfl, e0z⟩, trivial⟩⟩⟩
              · obtain rfl := Option.some.inj ho
                obtain ⟨ea, en, ec, e, el, eg⟩ : ∃ a n c, a'.tmps.getD 150 undef = .slice a n c ∧ n ≤ N 0 ∧ Gd Θw B (up N 0) wx (.sl 0) (.slice a n c) := hdeps 4 (by decide) 150 rfl
                obtain ⟨xb, x, xt⟩ : ∃ g, a'.tmps.getD 158 undef = .slice (some ⟨g, 0, none⟩) 1 1 ∧ TB Θw B (up N 0) wx g 0 1 := hdeps 12 (by decide) 158 rfl
                have hlc : L 4 = true := hld 4 (by decide)
                clear hoth hdeps hdf hts ho hld
                refine wp_via (fun K' hK => ?_)
                have HK := Lib.hid hK
                clear hK
                refine op_append_tt wOk0 (wSep 0 (by decide)) wx _ _ rfl (ea) en ec e eg _ 1 1 x xt (by decide) (by decide) (up N 0) (fun _ => Nat.le_refl _) (by have := el; have := up_at N 0; omega) (by have := hhiS 0; omega) hrt.lt ?_
                intro p' c' w' hA
                exact HK.out _ _ ⟨_, rfl, hrt.app hlc (fun x => up_le N 0 x) eg hA hσ (trivial), hA.goes, fun _ => hA.gd⟩
              · obtain rfl := Option.some.inj ho
                have e : a'.tmps.getD 146 undef = .pointer (some ⟨g, pi * 5, none⟩) := hdeps 0 (by decide) 146 rfl
                clear hoth hdeps hdf hts ho hld
                refine wp_via (fun K' hK => ?_)
                have HK := Lib.hid hK
                clear hK
                go_simp
                exact HK.out _ _ ⟨_, rfl, hrt.same (by decide), Goes.refl _ _ _ _, fun _ => rfl⟩
              · obtain rfl := Option.some.inj ho
                have e : a'.tmps.getD 160 undef = .pointer (some ⟨g, pi * 5, none⟩) := hdeps 14 (by decide) 160 rfl
                clear hoth hdeps hdf hts ho hld
                refine wp_via (fun K' hK => ?_)
                have HK := Lib.hid hK
                clear hK
                go_simp
                exact HK.out _ _ ⟨_, rfl, hrt.same (by decide), Goes.refl _ _ _ _, fun _ => rfl⟩
            · intro L wx f hrt hdl
              have pp : f 161 = .pointer (some ⟨g, pi * 5 + 4, none⟩) := hdl 15 161 (by decide) rfl
              obtain ⟨pvv, pv', pvg'⟩ : ∃ v, f 159 = v ∧ Gd Θw B (up N 0) wx (.sl 0) v := ⟨_, rfl, hdl 13 159 (by decide) rfl⟩
              obtain ⟨pva, pvn, pvc, rfl, -⟩ := pvg'.slice
              have pv := pv'
              have pvg := Lib.hid pvg'
              clear pv' pvg'
              rw [show dsts _ _ = [146, 147, 148, 149, 150, 151, 152, 153, 154, 155, 156, 157, 158, 159, 160, 161] from by kernel_rfl]
              simp only [List.map_cons, List.map_nil, puts, Act.put, pp, pv]
              generalize f 146 = f146
              generalize f 147 = f147
              generalize f 148 = f148
              generalize f 149 = f149
              generalize f 150 = f150
              generalize f 151 = f151
              generalize f 152 = f152
              generalize f 153 = f153
              generalize f 154 = f154
              generalize f 155 = f155
              generalize f 156 = f156
              generalize f 157 = f157
              generalize f 158 = f158
              generalize f 160 = f160
              simp only [List.setIfInBounds_toArray, List.set_cons_zero, List.set_cons_succ]
              clear hdl pp pv f
              obtain ⟨mz, hstz, hmz1, hmz2⟩ := hrt.st
              have hgoz := Lib.hid (hrt.goes (fun x => up_le N 0 x))
              have hkpz := Lib.hid hrt.kp
              have hltz := Lib.hid hrt.lt
              have hstz := Lib.hid hstz
              have hexz := Lib.hid hrt.ex
              clear hrt
              have HT := Lib.hid (hgoz.out.tb _ _ _ HGB.out)
              obtain ⟨a3, n3, c3, d3, -, -⟩ := HT.out.ldL (i := pi) (j := 4) (o := pi * 5 + 4) hpi rfl rfl
              have z3 := HT.out.fz (pi * 5 + 4)
              have hset : Goes Θw B (up N 0) wx (up N 0) (wx.setCell ⟨g, pi * 5 + 4, none⟩ (.slice pva pvn pvc)) := Goes.set (wSep 5 (by decide)) HT.out (f := .sl 0) (by rw [show (pi * 5 + 4) % Θw.sz 5 = 4 from by show (pi * 5 + 4) % 5 = 4; omega]; rfl) pvg.out
              have hks : Kept (fun b => b ≠ g) wx (wx.setCell ⟨g, pi * 5 + 4, none⟩ (.slice pva pvn pvc)) := Kept.setCell _ _ _ (fun h => h rfl)
              have hlow := HT.out.low
              have HF := Lib.hid (show GenX σ B N (up N 0) n 20000000 w0 (wx.setCell ⟨g, pi * 5 + 4, none⟩ (.slice pva pvn pvc)) mz from ⟨hstz.out.kept hks (fun j hj => by omega), by have := HGEN.out.lo; omega, by have := HGEN.out.hi; omega, (HGEN.out.kp.trans hkpz.out).trans2 hks (fun x _ hx => by have := hx.1; omega), (HGEN.out.goes.trans hgoz.out).trans hset, Nat.le_trans hltz.out hks.size⟩)
              have HGF := Lib.hid (hgoz.out.trans hset)
              clear hset hks hlow
              go_wp2_with fail
              go_meet
              exact ⟨(up N 0), mz, fun x => up_lt N 0 x, HF.out, HGF.out⟩
          · have hloS : ∀ x, 8 ≤ (up N 6) x := fun x => Nat.le_trans (hlo x) (up_le N _ x)
            have hhiS : ∀ x, (up N 6) x ≤ 1000 := fun x => by have := up_lt N 6 x; have := hhi x; omega
            go_upto_region 24 with fail
            refine wp_region_ty 17 (by kernel_rfl) (by kernel_rfl) (RT Θw σ B N (up N 6) (fun _ => True) w5 m5 15 1)
              (DL [QIs (.pointer (some ⟨wb, 2, none⟩)), PL Θw B N (up N 6) 6, QIs (.pointer (some ⟨σ.b, 0, none⟩)), PG Θw B (up N 6) .i, PT Θw B (up N 6) 0 1, PT Θw B (up N 6) 0 2, PT Θw B (up N 6) 0 2, PT Θw B (up N 6) 0 2, PT Θw B (up N 6) 8 5, QIs (.pointer (some ⟨σ.b, 0, none⟩)), PR (0) (4), PE Θw B (up N 6) 8, PG Θw B (up N 6) (.sl 0), PA Θw B (up N 6) 6, PT Θw B (up N 6) 6 1, PG Θw B (up N 6) (.sl 6), QIs (.pointer (some ⟨wb, 2, none⟩))]) (fun w w' => Goes Θw B (up N 6) w (up N 6) w')
              (DL.keep (by simp only [List.forall_mem_cons, List.not_mem_nil, false_implies, implies_true, and_true]; exact ⟨QIs.stays' _, PL.stays _, QIs.stays' _, PG.stays _, PT.stays _ _, PT.stays _ _, PT.stays _ _, PT.stays _ _, PT.stays _ _, QIs.stays' _, PR.stays _ _, PE.stays _, PG.stays _, PA.stays _, PT.stays _ _, PG.stays _, QIs.stays' _⟩)) ?_ ?_ ?_
            · exact ⟨⟨m5, HST.out.keep (Kept.drew _ _), Nat.le_refl _, by omega⟩, Kept.drew _ _, HLT.out, by rw [if_neg (by decide)]; exact Goes.all (Kept.drew _ _), fun h => (by cases h), trivial⟩
            · intro i o ho hi kq L a' wx hkq hrt hL hdf hts hoth hld hdeps
              have hkz : kq < 17 := hkq
              have hz : i = 0 ∨ i = 1 ∨ i = 2 ∨ i = 3 ∨ i = 4 ∨ i = 5 ∨ i = 6 ∨ i = 7 ∨ i = 8 ∨ i = 9 ∨ i = 10 ∨ i = 11 ∨ i = 12 ∨ i = 13 ∨ i = 14 ∨ i = 15 ∨ i = 16 := by have : i < 17 := hi; omega
              rcases hz with rfl | rfl | rfl | rfl | rfl | rfl | rfl | rfl | rfl | rfl | rfl | rfl | rfl | rfl | rfl | rfl | rfl
              · obtain rfl := Option.some.inj ho
                have e : a'.tmps.getD 3 undef = .pointer (some ⟨wb, 0, none⟩) := tmp_of ((hoth 3 (by decide)).trans rfl)
                clear hoth hdeps hdf hts ho hld
                refine wp_via (fun K' hK => ?_)
                have HK := Lib.hid hK
                clear hK
                go_simp
                exact HK.out _ _ ⟨_, rfl, hrt.same (by decide), Goes.refl _ _ _ _, fun _ => rfl⟩
              · obtain rfl := Option.some.inj ho
                have e : a'.tmps.getD 164 undef = .pointer (some ⟨wb, 2, none⟩) := hdeps 0 (by decide) 164 rfl
                obtain ⟨a0, n0, c0', c0, z0, g0⟩ := ((hrt.old (hrt.notyet hL)).tb _ _ _ HWB5.out).ldL (i := 0) (j := 2) (o := 2) (by decide) rfl (by decide)
                clear hoth hdeps hdf hts ho hld
                refine wp_via (fun K' hK => ?_)
                have HK := Lib.hid hK
                clear hK
                go_simp
                exact HK.out _ _ ⟨_, rfl, hrt.same (by decide), Goes.refl _ _ _ _, fun _ => ⟨_, _, _, rfl, z0, Gd.goes g0 (Goes.up (fun x => up_le N 6 x))⟩⟩
              · obtain rfl := Option.some.inj ho
                have e : a'.tmps.getD 0 undef = .pointer (some ⟨σ.b, 0, none⟩) := tmp_of ((hoth 0 (by decide)).trans rfl)
                clear hoth hdeps hdf hts ho hld
                refine wp_via (fun K' hK => ?_)
                have HK := Lib.hid hK
                clear hK
                go_simp
                exact HK.out _ _ ⟨_, rfl, hrt.same (by decide), Goes.refl _ _ _ _, fun _ => rfl⟩
              · obtain rfl := Option.some.inj ho
                have e0 : a'.tmps.getD 166 undef = .pointer (some ⟨σ.b, 0, none⟩) := hdeps 2 (by decide) 166 rfl
                obtain ⟨m, hst, hm1, hm2⟩ := hrt.st
                clear hoth hdeps hdf hts ho hld
                refine wp_via (fun K' hK => ?_)
                have HK := Lib.hid hK
                clear hK
                go_simp
                refine (odd10_any σ m 0 4000 wx hst (by omega) (by omega) (by omega) (by omega)).mono ?_
                rintro e w2 ⟨v, m2, rfl, ⟨r, rfl, hr⟩, hA, hB, hs2, hb2⟩
                exact HK.out _ _ ⟨_, rfl, hrt.call (by decide) hm1 hm2 hA hB (by decide) hs2 hb2 hσ (trivial), Goes.but hb2 hσ, fun _ => ⟨r, rfl, hr⟩⟩
              · obtain rfl := Option.some.inj ho
                clear hoth hdeps hdf hts ho hld
                refine wp_via (fun K' hK => ?_)
                have HK := Lib.hid hK
                clear hK
                go_simp
                exact HK.out _ _ ⟨_, rfl, hrt.all (by decide) (Kept.alloc _ _ _) hσ (trivial), Goes.all (Kept.alloc _ _ _), fun _ => ⟨_, rfl, TB.litN (kd := 0) (vs := [.string ⟨#[97, 110, 110]⟩]) hrt.lt rfl rfl ⟨⟨_, rfl, by decide⟩, trivial⟩⟩⟩
              · obtain rfl := Option.some.inj ho
                clear hoth hdeps hdf hts ho hld
                refine wp_via (fun K' hK => ?_)
                have HK := Lib.hid hK
                clear hK
                go_simp
                exact HK.out _ _ ⟨_, rfl, hrt.all (by decide) (Kept.alloc _ _ _) hσ (trivial), Goes.all (Kept.alloc _ _ _), fun _ => ⟨_, rfl, TB.litN (kd := 0) (vs := [.string ⟨#[98, 111, 98]⟩, .string ⟨#[97, 110, 110]⟩]) hrt.lt rfl rfl ⟨⟨_, rfl, by decide⟩, ⟨_, rfl, by decide⟩, trivial⟩⟩⟩
              · obtain rfl := Option.some.inj ho
                clear hoth hdeps hdf hts ho hld
                refine wp_via (fun K' hK => ?_)
                have HK := Lib.hid hK
                clear hK
                go_simp
                exact HK.out _ _ ⟨_, rfl, hrt.all (by decide) (Kept.alloc _ _ _) hσ (trivial), Goes.all (Kept.alloc _ _ _), fun _ => ⟨_, rfl, TB.litN (kd := 0) (vs := [.string ⟨#[97, 110, 110]⟩, .string ⟨#[98, 111, 98]⟩]) hrt.lt rfl rfl ⟨⟨_, rfl, by decide⟩, ⟨_, rfl, by decide⟩, trivial⟩⟩⟩
              · obtain rfl := Option.some.inj ho
                clear hoth hdeps hdf hts ho hld
                refine wp_via (fun K' hK => ?_)
                have HK := Lib.hid hK
                clear hK
                go_simp
                exact HK.out _ _ ⟨_, rfl, hrt.all (by decide) (Kept.alloc _ _ _) hσ (trivial), Goes.all (Kept.alloc _ _ _), fun _ => ⟨_, rfl, TB.litN (kd := 0) (vs := [.string ⟨#[97, 110, 110]⟩, .string ⟨#[110, 111, 110, 101]⟩]) hrt.lt rfl rfl ⟨⟨_, rfl, by decide⟩, ⟨_, rfl, by decide⟩, trivial⟩⟩⟩
              · obtain rfl := Option.some.inj ho
                obtain ⟨e1b, e1, e1t⟩ : ∃ g, a'.tmps.getD 168 undef = .slice (some ⟨g, 0, none⟩) 1 1 ∧ TB Θw B (up N 6) wx g 0 1 := hdeps 4 (by decide) 168 rfl
                have e1q : a'.tmps[168]?.getD undef = .slice (some ⟨e1b, 0, none⟩) 1 1 := by rw [← Array.getD_eq_getD_getElem?]; exact e1
                obtain ⟨e2b, e2, e2t⟩ : ∃ g, a'.tmps.getD 169 undef = .slice (some ⟨g, 0, none⟩) 2 2 ∧ TB Θw B (up N 6) wx g 0 2 := hdeps 5 (by decide) 169 rfl
                have e2q : a'.tmps[169]?.getD undef = .slice (some ⟨e2b, 0, none⟩) 2 2 := by rw [← Array.getD_eq_getD_getElem?]; exact e2
                obtain ⟨e3b, e3, e3t⟩ : ∃ g, a'.tmps.getD 170 undef = .slice (some ⟨g, 0, none⟩) 2 2 ∧ TB Θw B (up N 6) wx g 0 2 := hdeps 6 (by decide) 170 rfl
                have e3q : a'.tmps[170]?.getD undef = .slice (some ⟨e3b, 0, none⟩) 2 2 := by rw [← Array.getD_eq_getD_getElem?]; exact e3
                obtain ⟨e4b, e4, e4t⟩ : ∃ g, a'.tmps.getD 171 undef = .slice (some ⟨g, 0, none⟩) 2 2 ∧ TB Θw B (up N 6) wx g 0 2 := hdeps 7 (by decide) 171 rfl
                have e4q : a'.tmps[171]?.getD undef = .slice (some ⟨e4b, 0, none⟩) 2 2 := by rw [← Array.getD_eq_getD_getElem?]; exact e4
                clear hoth hdeps hdf hts ho hld
                refine wp_via (fun K' hK => ?_)
                have HK := Lib.hid hK
                clear hK
                go_simp
                exact HK.out _ _ ⟨_, rfl, hrt.all (by decide) (Kept.alloc _ _ _) hσ (trivial), Goes.all (Kept.alloc _ _ _), fun _ => ⟨_, rfl, TB.litN (kd := 8) (vs := [.slice none 0 0, .slice (some ⟨e1b, 0, none⟩) 1 1, .slice (some ⟨e2b, 0, none⟩) 2 2, .slice (some ⟨e3b, 0, none⟩) 2 2, .slice (some ⟨e4b, 0, none⟩) 2 2]) hrt.lt rfl rfl ⟨Or.inl ⟨_, rfl⟩, (e1t.gd (by have := hloS 0; omega)), (e2t.gd (by have := hloS 0; omega)), (e3t.gd (by have := hloS 0; omega)), (e4t.gd (by have := hloS 0; omega)), trivial⟩⟩⟩
              · obtain rfl := Option.some.inj ho
                have e : a'.tmps.getD 0 undef = .pointer (some ⟨σ.b, 0, none⟩) := tmp_of ((hoth 0 (by decide)).trans rfl)
                clear hoth hdeps hdf hts ho hld
                refine wp_via (fun K' hK => ?_)
                have HK := Lib.hid hK
                clear hK
                go_simp
                exact HK.out _ _ ⟨_, rfl, hrt.same (by decide), Goes.refl _ _ _ _, fun _ => rfl⟩
              · obtain rfl := Option.some.inj ho
                have e0 : a'.tmps.getD 173 undef = .pointer (some ⟨σ.b, 0, none⟩) := hdeps 9 (by decide) 173 rfl
                obtain ⟨m, hst, hm1, hm2⟩ := hrt.st
                clear hoth hdeps hdf hts ho hld
                refine wp_via (fun K' hK => ?_)
                have HK := Lib.hid hK
                clear hK
                go_simp
                refine (next_any σ m 5 wx hst (by omega) (by omega) (by omega)).mono ?_
                rintro e w2 ⟨v, m2, rfl, ⟨r, rfl, hr1, hr2⟩, hA, hB, hs2, hb2⟩
                exact HK.out _ _ ⟨_, rfl, hrt.call (by decide) hm1 hm2 hA hB (by decide) hs2 hb2 hσ (trivial), Goes.but hb2 hσ, fun _ => ⟨r, rfl, by omega, by omega⟩⟩
              · obtain rfl := Option.some.inj ho
                obtain ⟨eb, e, et⟩ : ∃ g, a'.tmps.getD 172 undef = .slice (some ⟨g, 0, none⟩) 5 5 ∧ TB Θw B (up N 6) wx g 8 5 := hdeps 8 (by decide) 172 rfl
                obtain ⟨xi, x, xl, xh⟩ : ∃ z : Int, a'.tmps.getD 174 undef = .int .i64 z ∧ 0 ≤ z ∧ z ≤ 4 := hdeps 10 (by decide) 174 rfl
                obtain ⟨xk, rfl⟩ := Int.eq_ofNat_of_zero_le xl
                have x2 : (xk : Int) < 5 := by omega
                have x3 : (0 : Int) ≤ (xk : Int) := by omega
                clear hoth hdeps hdf hts ho hld
                refine wp_via (fun K' hK => ?_)
                have HK := Lib.hid hK
                clear hK
                go_simp
                exact HK.out _ _ ⟨_, rfl, hrt.same (by decide), Goes.refl _ _ _ _, fun _ => ⟨_, xk, _, (by show _ = Value.pointer (some ⟨eb, xk * 1, none⟩); rw [Nat.mul_one]), by omega, et⟩⟩
              · obtain rfl := Option.some.inj ho
                obtain ⟨eb, ei, em, e, el, et⟩ : ∃ b i m, a'.tmps.getD 175 undef = .pointer (some ⟨b, i * 1, none⟩) ∧ i < m ∧ TB Θw B (up N 6) wx b 8 m := hdeps 11 (by decide) 175 rfl
                obtain ⟨a0, n0, c0', c0, z0, g0⟩ := et.ldL (i := ei) (j := 0) (o := ei) el rfl (by show ei = ei * 1 + 0; omega)
                clear hoth hdeps hdf hts ho hld
                refine wp_via (fun K' hK => ?_)
                have HK := Lib.hid hK
                clear hK
                go_simp
                exact HK.out _ _ ⟨_, rfl, hrt.same (by decide), Goes.refl _ _ _ _, fun _ => g0⟩
              · obtain rfl := Option.some.inj ho
                obtain ⟨e0i, e0, e0l, e0h⟩ : ∃ z : Int, a'.tmps.getD 167 undef = .int .i64 z ∧ -2000000000000 ≤ z ∧ z ≤ 2000000000000 := hdeps 3 (by decide) 167 rfl
                have e0q : a'.tmps[167]?.getD undef = .int .i64 e0i := by rw [← Array.getD_eq_getD_getElem?]; exact e0
                obtain ⟨e1v, e1, e1g⟩ : ∃ v, a'.tmps.getD 176 undef = v ∧ Gd Θw B (up N 6) wx (.sl 0) v := ⟨_, rfl, hdeps 12 (by decide) 176 rfl⟩
                obtain ⟨e1a, e1n, e1c, rfl, -⟩ := e1g.slice
                have e1q : a'.tmps[176]?.getD undef = .slice e1a e1n e1c := by rw [← Array.getD_eq_getD_getElem?]; exact e1
                clear hoth hdeps hdf hts ho hld
                refine wp_via (fun K' hK => ?_)
                have HK := Lib.hid hK
                clear hK
                go_simp
                exact HK.out _ _ ⟨_, rfl, hrt.same (by decide), Goes.refl _ _ _ _, fun _ => ⟨[.int .i64 e0i, .slice e1a e1n e1c], rfl, ⟨_, rfl, e0l, e0h⟩, e1g, trivial⟩⟩
              · obtain rfl := Option.some.inj ho
                obtain ⟨e0v, e0, e0g⟩ : ∃ vs : List Value, a'.tmps.getD 177 undef = .agg vs.toArray ∧ GdL Θw B (up N 6) wx (Θw.fds 6) vs := hdeps 13 (by decide) 177 rfl
                obtain ⟨e0x0, e0x1, e0y1, e0z1, rfl⟩ := inv6 e0g
                replace e0 : a'.tmps.getD 177 undef = .agg #[.int .i64 e0x0, .slice e0x1 e0y1 e0z1] := e0
                have e0q : a'.tmps[177]?.getD undef = .agg #[.int .i64 e0x0, .slice e0x1 e0y1 e0z1] := by rw [← Array.getD_eq_getD_getElem?]; exact e0
                clear hoth hdeps hdf hts ho hld
                refine wp_via (fun K' hK => ?_)
                have HK := Lib.hid hK
                clear hK
                go_simp
                exact HK.out _ _ ⟨_, rfl, hrt.all (by decide) (Kept.alloc _ _ _) hσ (trivial), Goes.all (Kept.alloc _ _ _), fun _ => ⟨_, rfl, TB.lit1 hrt.lt (by decide) e0g⟩⟩
              · obtain rfl := Option.some.inj ho
                obtain ⟨ea, en, ec, e, el, eg⟩ : ∃ a n c, a'.tmps.getD 165 undef = .slice a n c ∧ n ≤ N 6 ∧ Gd Θw B (up N 6) wx (.sl 6) (.slice a n c) := hdeps 1 (by decide) 165 rfl
                obtain ⟨xb, x, xt⟩ : ∃ g, a'.tmps.getD 178 undef = .slice (some ⟨g, 0, none⟩) 1 1 ∧ TB Θw B (up N 6) wx g 6 1 := hdeps 14 (by decide) 178 rfl
                have hlc : L 1 = true := hld 1 (by decide)
                clear hoth hdeps hdf hts ho hld
                refine wp_via (fun K' hK => ?_)
                have HK := Lib.hid hK
                clear hK
                refine op_append_tt wOk6 (wSep 6 (by decide)) wx _ _ rfl (ea) en ec e eg _ 1 1 x xt (by decide) (by decide) (up N 6) (fun _ => Nat.le_refl _) (by have := el; have := up_at N 6; omega) (by have := hhiS 6; omega) hrt.lt ?_
                intro p' c' w' hA
                exact HK.out _ _ ⟨_, rfl, hrt.app hlc (fun x => up_le N 6 x) eg hA hσ (trivial), hA.goes, fun _ => hA.gd⟩
              · obtain rfl := Option.some.inj ho
                have e : a'.tmps.getD 3 undef = .pointer (some ⟨wb, 0, none⟩) := tmp_of ((hoth 3 (by decide)).trans rfl)
                clear hoth hdeps hdf hts ho hld
                refine wp_via (fun K' hK => ?_)
                have HK := Lib.hid hK
                clear hK
                go_simp
                exact HK.out _ _ ⟨_, rfl, hrt.same (by decide), Goes.refl _ _ _ _, fun _ => rfl⟩
            · intro L wx f hrt hdl
              have pp : f 180 = .pointer (some ⟨wb, 2, none⟩) := hdl 16 180 (by decide) rfl
              obtain ⟨pvv, pv', pvg'⟩ : ∃ v, f 179 = v ∧ Gd Θw B (up N 6) wx (.sl 6) v := ⟨_, rfl, hdl 15 179 (by decide) rfl⟩
              obtain ⟨pva, pvn, pvc, rfl, -⟩ := pvg'.slice
              have pv := pv'
              have pvg := Lib.hid pvg'
              clear pv' pvg'
              rw [show dsts _ _ = [164, 165, 166, 167, 168, 169, 170, 171, 172, 173, 174, 175, 176, 177, 178, 179, 180] from by kernel_rfl]
              simp only [List.map_cons, List.map_nil, puts, Act.put, pp, pv]
              generalize f 164 = f164
              generalize f 165 = f165
              generalize f 166 = f166
              generalize f 167 = f167
              generalize f 168 = f168
              generalize f 169 = f169
              generalize f 170 = f170
              generalize f 171 = f171
              generalize f 172 = f172
              generalize f 173 = f173
              generalize f 174 = f174
              generalize f 175 = f175
              generalize f 176 = f176
              generalize f 177 = f177
              generalize f 178 = f178
              simp only [List.setIfInBounds_toArray, List.set_cons_zero, List.set_cons_succ]
              clear hdl pp pv f
              obtain ⟨mz, hstz, hmz1, hmz2⟩ := hrt.st
              have hgoz := Lib.hid (hrt.goes (fun x => up_le N 6 x))
              have hkpz := Lib.hid hrt.kp
              have hltz := Lib.hid hrt.lt
              have hstz := Lib.hid hstz
              have hexz := Lib.hid hrt.ex
              clear hrt
              have HT := Lib.hid (hgoz.out.tb _ _ _ HWB5.out)
              obtain ⟨a3, n3, c3, d3, -, -⟩ := HT.out.ldL (i := 0) (j := 2) (o := 2) (by decide) rfl (by decide)
              have z3 := HT.out.fz (2)
              have hset : Goes Θw B (up N 6) wx (up N 6) (wx.setCell ⟨wb, 2, none⟩ (.slice pva pvn pvc)) := Goes.set (wSep 7 (by decide)) HT.out (f := .sl 6) rfl pvg.out
              have hks : Kept (fun b => b ≠ wb) wx (wx.setCell ⟨wb, 2, none⟩ (.slice pva pvn pvc)) := Kept.setCell _ _ _ (fun h => h rfl)
              have hlow := HT.out.low
              have HF := Lib.hid (show GenX σ B N (up N 6) n 20000000 w0 (wx.setCell ⟨wb, 2, none⟩ (.slice pva pvn pvc)) mz from ⟨hstz.out.kept hks (fun j hj => by omega), by have := HGEN.out.lo; omega, by have := HGEN.out.hi; omega, (HGEN.out.kp.trans hkpz.out).trans2 hks (fun x _ hx => by have := hx.1; omega), (HGEN.out.goes.trans hgoz.out).trans hset, Nat.le_trans hltz.out hks.size⟩)
              have HGF := Lib.hid (hgoz.out.trans hset)
              clear hset hks hlow
              go_wp2_with fail
              go_meet
              exact ⟨(up N 6), mz, fun x => up_lt N 6 x, HF.out, HGF.out⟩
          · have hloS : ∀ x, 8 ≤ (up N 4) x := fun x => Nat.le_trans (hlo x) (up_le N _ x)
            have hhiS : ∀ x, (up N 4) x ≤ 1000 := fun x => by have := up_lt N 4 x; have := hhi x; omega
            go_upto_region 10 with fail
            refine wp_region_ty 12 (by kernel_rfl) (by kernel_rfl) (RT Θw σ B N (up N 4) (fun _ => True) w5 m5 10 1)
              (DL [QIs (.pointer (some ⟨wb, 3, none⟩)), PL Θw B N (up N 4) 4, QIs (.pointer (some ⟨σ.b, 0, none⟩)), PT Θw B (up N 4) 0 3, PG Θw B (up N 4) .s, QIs (.pointer (some ⟨σ.b, 0, none⟩)), PT Θw B (up N 4) 0 3, PG Θw B (up N 4) .s, PA Θw B (up N 4) 4, PT Θw B (up N 4) 4 1, PG Θw B (up N 4) (.sl 4), QIs (.pointer (some ⟨wb, 3, none⟩))]) (fun w w' => Goes Θw B (up N 4) w (up N 4) w')
              (DL.keep (by simp only [List.forall_mem_cons, List.not_mem_nil, false_implies, implies_true, and_true]; exact ⟨QIs.stays' _, PL.stays _, QIs.stays' _, PT.stays _ _, PG.stays _, QIs.stays' _, PT.stays _ _, PG.stays _, PA.stays _, PT.stays _ _, PG.stays _, QIs.stays' _⟩)) ?_ ?_ ?_
            · exact ⟨⟨m5, HST.out.keep (Kept.drew _ _), Nat.le_refl _, by omega⟩, Kept.drew _ _, HLT.out, by rw [if_neg (by decide)]; exact Goes.all (Kept.drew _ _), fun h => (by cases h), trivial⟩
            · intro i o ho hi kq L a' wx hkq hrt hL hdf hts hoth hld hdeps
              have hkz : kq < 12 := hkq
              have hz : i = 0 ∨ i = 1 ∨ i = 2 ∨ i = 3 ∨ i = 4 ∨ i = 5 ∨ i = 6 ∨ i = 7 ∨ i = 8 ∨ i = 9 ∨ i = 10 ∨ i = 11 := by have : i < 12 := hi; omega
              rcases hz with rfl | rfl | rfl | rfl | rfl | rfl | rfl | rfl | rfl | rfl | rfl | rfl
              · obtain rfl := Option.some.inj ho
                have e : a'.tmps.getD 3 undef = .pointer (some ⟨wb, 0, none⟩) := tmp_of ((hoth 3 (by decide)).trans rfl)
                clear hoth hdeps hdf hts ho hld
                refine wp_via (fun K' hK => ?_)
                have HK := Lib.hid hK
                clear hK
                go_simp
                exact HK.out _ _ ⟨_, rfl, hrt.same (by decide), Goes.refl _ _ _ _, fun _ => rfl⟩
              · obtain rfl := Option.some.inj ho
                have e : a'.tmps.getD 65 undef = .pointer (some ⟨wb, 3, none⟩) := hdeps 0 (by decide) 65 rfl
                obtain ⟨a0, n0, c0', c0, z0, g0⟩ := ((hrt.old (hrt.notyet hL)).tb _ _ _ HWB5.out).ldL (i := 0) (j := 3) (o := 3) (by decide) rfl (by decide)
                clear hoth hdeps hdf hts ho hld
                refine wp_via (fun K' hK => ?_)
                have HK := Lib.hid hK
                clear hK
                go_simp
                exact HK.out _ _ ⟨_, rfl, hrt.same (by decide), Goes.refl _ _ _ _, fun _ => ⟨_, _, _, rfl, z0, Gd.goes g0 (Goes.up (fun x => up_le N 4 x))⟩⟩
              · obtain rfl := Option.some.inj ho
                have e : a'.tmps.getD 0 undef = .pointer (some ⟨σ.b, 0, none⟩) := tmp_of ((hoth 0 (by decide)).trans rfl)
                clear hoth hdeps hdf hts ho hld
                refine wp_via (fun K' hK => ?_)
                have HK := Lib.hid hK
                clear hK
                go_simp
                exact HK.out _ _ ⟨_, rfl, hrt.same (by decide), Goes.refl _ _ _ _, fun _ => rfl⟩
              · obtain rfl := Option.some.inj ho
                clear hoth hdeps hdf hts ho hld
                refine wp_via (fun K' hK => ?_)
                have HK := Lib.hid hK
                clear hK
                go_simp
                exact HK.out _ _ ⟨_, rfl, hrt.all (by decide) (Kept.alloc _ _ _) hσ (trivial), Goes.all (Kept.alloc _ _ _), fun _ => ⟨_, rfl, TB.litN (kd := 0) (vs := [.string ⟨#[97, 110, 110]⟩, .string ⟨#[98, 111, 98]⟩, .string ⟨#[110, 111, 110, 101]⟩]) hrt.lt rfl rfl ⟨⟨_, rfl, by decide⟩, ⟨_, rfl, by decide⟩, ⟨_, rfl, by decide⟩, trivial⟩⟩⟩
              · obtain rfl := Option.some.inj ho
                have e0 : a'.tmps.getD 67 undef = .pointer (some ⟨σ.b, 0, none⟩) := hdeps 2 (by decide) 67 rfl
                obtain ⟨e1b, e1, e1t⟩ : ∃ g, a'.tmps.getD 68 undef = .slice (some ⟨g, 0, none⟩) 3 3 ∧ TB Θw B (up N 4) wx g 0 3 := hdeps 3 (by decide) 68 rfl
                obtain ⟨m, hst, hm1, hm2⟩ := hrt.st
                clear hoth hdeps hdf hts ho hld
                refine wp_via (fun K' hK => ?_)
                have HK := Lib.hid hK
                clear hK
                go_simp
                refine (some10T_any hst (by omega) hσ e1t (by decide) (by decide)).mono ?_
                rintro e w2 ⟨v, m2, rfl, ⟨r, rfl, hr⟩, hA, hB, hs2, hb2⟩
                exact HK.out _ _ ⟨_, rfl, hrt.call (by decide) hm1 hm2 hA hB (by decide) hs2 hb2 hσ (trivial), Goes.but hb2 hσ, fun _ => ⟨r, rfl, hr⟩⟩
              · obtain rfl := Option.some.inj ho
                have e : a'.tmps.getD 0 undef = .pointer (some ⟨σ.b, 0, none⟩) := tmp_of ((hoth 0 (by decide)).trans rfl)
                clear hoth hdeps hdf hts ho hld
                refine wp_via (fun K' hK => ?_)
                have HK := Lib.hid hK
                clear hK
                go_simp
                exact HK.out _ _ ⟨_, rfl, hrt.same (by decide), Goes.refl _ _ _ _, fun _ => rfl⟩
              · obtain rfl := Option.some.inj ho
                clear hoth hdeps hdf hts ho hld
                refine wp_via (fun K' hK => ?_)
                have HK := Lib.hid hK
                clear hK
                go_simp
                exact HK.out _ _ ⟨_, rfl, hrt.all (by decide) (Kept.alloc _ _ _) hσ (trivial), Goes.all (Kept.alloc _ _ _), fun _ => ⟨_, rfl, TB.litN (kd := 0) (vs := [.string ⟨#[97, 110, 110]⟩, .string ⟨#[98, 111, 98]⟩, .string ⟨#[101, 118, 101]⟩]) hrt.lt rfl rfl ⟨⟨_, rfl, by decide⟩, ⟨_, rfl, by decide⟩, ⟨_, rfl, by decide⟩, trivial⟩⟩⟩
              · obtain rfl := Option.some.inj ho
                have e0 : a'.tmps.getD 70 undef = .pointer (some ⟨σ.b, 0, none⟩) := hdeps 5 (by decide) 70 rfl
                obtain ⟨e1b, e1, e1t⟩ : ∃ g, a'.tmps.getD 71 undef = .slice (some ⟨g, 0, none⟩) 3 3 ∧ TB Θw B (up N 4) wx g 0 3 := hdeps 6 (by decide) 71 rfl
                obtain ⟨m, hst, hm1, hm2⟩ := hrt.st
                clear hoth hdeps hdf hts ho hld
                refine wp_via (fun K' hK => ?_)
                have HK := Lib.hid hK
                clear hK
                go_simp
                refine (some10T_any hst (by omega) hσ e1t (by decide) (by decide)).mono ?_
                rintro e w2 ⟨v, m2, rfl, ⟨r, rfl, hr⟩, hA, hB, hs2, hb2⟩
                exact HK.out _ _ ⟨_, rfl, hrt.call (by decide) hm1 hm2 hA hB (by decide) hs2 hb2 hσ (trivial), Goes.but hb2 hσ, fun _ => ⟨r, rfl, hr⟩⟩
              · obtain rfl := Option.some.inj ho
                obtain ⟨e0s, e0, e0z⟩ : ∃ s : ByteArray, a'.tmps.getD 69 undef = .string s ∧ s.size ≤ 200 := hdeps 4 (by decide) 69 rfl
                have e0q : a'.tmps[69]?.getD undef = .string e0s := by rw [← Array.getD_eq_getD_getElem?]; exact e0
                obtain ⟨e1s, e1, e1z⟩ : ∃ s : ByteArray, a'.tmps.getD 72 undef = .string s ∧ s.size ≤ 200 := hdeps 7 (by decide) 72 rfl
                have e1q : a'.tmps[72]?.getD undef = .string e1s := by rw [← Array.getD_eq_getD_getElem?]; exact e1
                clear hoth hdeps hdf hts ho hld
                refine wp_via (fun K' hK => ?_)
                have HK := Lib.hid hK
                clear hK
                go_simp
                exact HK.out _ _ ⟨_, rfl, hrt.same (by decide), Goes.refl _ _ _ _, fun _ => ⟨[.string e0s, .string e1s], rfl, ⟨_, rfl, e0z⟩, ⟨_, rfl, e1z⟩, trivial⟩⟩
              · obtain rfl := Option.some.inj ho
                obtain ⟨e0v, e0, e0g⟩ : ∃ vs : List Value, a'.tmps.getD 73 undef = .agg vs.toArray ∧ GdL Θw B (up N 4) wx (Θw.fds 4) vs := hdeps 8 (by decide) 73 rfl
                obtain ⟨e0x0, e0x1, rfl⟩ := inv4 e0g
                replace e0 : a'.tmps.getD 73 undef = .agg #[.string e0x0, .string e0x1] := e0
                have e0q : a'.tmps[73]?.getD undef = .agg #[.string e0x0, .string e0x1] := by rw [← Array.getD_eq_getD_getElem?]; exact e0
                clear hoth hdeps hdf hts ho hld
                refine wp_via (fun K' hK => ?_)
                have HK := Lib.hid hK
                clear hK
                go_simp
                exact HK.out _ _ ⟨_, rfl, hrt.all (by decide) (Kept.alloc _ _ _) hσ (trivial), Goes.all (Kept.alloc _ _ _), fun _ => ⟨_, rfl, TB.lit1 hrt.lt (by decide) e0g⟩⟩
              · obtain rfl := Option.some.inj ho
                obtain ⟨ea, en, ec, e, el, eg⟩ : ∃ a n c, a'.tmps.getD 66 undef = .slice a n c ∧ n ≤ N 4 ∧ Gd Θw B (up N 4) wx (.sl 4) (.slice a n c) := hdeps 1 (by decide) 66 rfl
                obtain ⟨xb, x, xt⟩ : ∃ g, a'.tmps.getD 74 undef = .slice (some ⟨g, 0, none⟩) 1 1 ∧ TB Θw B (up N 4) wx g 4 1 := hdeps 9 (by decide) 74 rfl
                have hlc : L 1 = true := hld 1 (by decide)
                clear hoth hdeps hdf hts ho hld
                refine wp_via (fun K' hK => ?_)
                have HK := Lib.hid hK
                clear hK
                refine op_append_tt wOk4 (wSep 4 (by decide)) wx _ _ rfl (ea) en ec e eg _ 1 1 x xt (by decide) (by decide) (up N 4) (fun _ => Nat.le_refl _) (by have := el; have := up_at N 4; omega) (by have := hhiS 4; omega) hrt.lt ?_
                intro p' c' w' hA
                exact HK.out _ _ ⟨_, rfl, hrt.app hlc (fun x => up_le N 4 x) eg hA hσ (trivial), hA.goes, fun _ => hA.gd⟩
              · obtain rfl := Option.some.inj ho
                have e : a'.tmps.getD 3 undef = .pointer (some ⟨wb, 0, none⟩) := tmp_of ((hoth 3 (by decide)).trans rfl)
                clear hoth hdeps hdf hts ho hld
                refine wp_via (fun K' hK => ?_)
                have HK := Lib.hid hK
                clear hK
                go_simp
                exact HK.out _ _ ⟨_, rfl, hrt.same (by decide), Goes.refl _ _ _ _, fun _ => rfl⟩
            · intro L wx f hrt hdl
              have pp : f 76 = .pointer (some ⟨wb, 3, none⟩) := hdl 11 76 (by decide) rfl
              obtain ⟨pvv, pv', pvg'⟩ : ∃ v, f 75 = v ∧ Gd Θw B (up N 4) wx (.sl 4) v := ⟨_, rfl, hdl 10 75 (by decide) rfl⟩
              obtain ⟨pva, pvn, pvc, rfl, -⟩ := pvg'.slice
              have pv := pv'
              have pvg := Lib.hid pvg'
              clear pv' pvg'
              rw [show dsts _ _ = [65, 66, 67, 68, 69, 70, 71, 72, 73, 74, 75, 76] from by kernel_rfl]
              simp only [List.map_cons, List.map_nil, puts, Act.put, pp, pv]
              generalize f 65 = f65
              generalize f 66 = f66
              generalize f 67 = f67
              generalize f 68 = f68
              generalize f 69 = f69
              generalize f 70 = f70
              generalize f 71 = f71
              generalize f 72 = f72
              generalize f 73 = f73
              generalize f 74 = f74
              simp only [List.setIfInBounds_toArray, List.set_cons_zero, List.set_cons_succ]
              clear hdl pp pv f
              obtain ⟨mz, hstz, hmz1, hmz2⟩ := hrt.st
              have hgoz := Lib.hid (hrt.goes (fun x => up_le N 4 x))
              have hkpz := Lib.hid hrt.kp
              have hltz := Lib.hid hrt.lt
              have hstz := Lib.hid hstz
              have hexz := Lib.hid hrt.ex
              clear hrt
              have HT := Lib.hid (hgoz.out.tb _ _ _ HWB5.out)
              obtain ⟨a3, n3, c3, d3, -, -⟩ := HT.out.ldL (i := 0) (j := 3) (o := 3) (by decide) rfl (by decide)
              have z3 := HT.out.fz (3)
              have hset : Goes Θw B (up N 4) wx (up N 4) (wx.setCell ⟨wb, 3, none⟩ (.slice pva pvn pvc)) := Goes.set (wSep 7 (by decide)) HT.out (f := .sl 4) rfl pvg.out
              have hks : Kept (fun b => b ≠ wb) wx (wx.setCell ⟨wb, 3, none⟩ (.slice pva pvn pvc)) := Kept.setCell _ _ _ (fun h => h rfl)
              have hlow := HT.out.low
              have HF := Lib.hid (show GenX σ B N (up N 4) n 20000000 w0 (wx.setCell ⟨wb, 3, none⟩ (.slice pva pvn pvc)) mz from ⟨hstz.out.kept hks (fun j hj => by omega), by have := HGEN.out.lo; omega, by have := HGEN.out.hi; omega, (HGEN.out.kp.trans hkpz.out).trans2 hks (fun x _ hx => by have := hx.1; omega), (HGEN.out.goes.trans hgoz.out).trans hset, Nat.le_trans hltz.out hks.size⟩)
              have HGF := Lib.hid (hgoz.out.trans hset)
              clear hset hks hlow
              go_wp2_with fail
              go_meet
              exact ⟨(up N 4), mz, fun x => up_lt N 4 x, HF.out, HGF.out⟩
        case rest =>
          obtain ⟨N', m6, hN', hgen6, hgo6⟩ := hcut
          obtain ⟨w6, rfl⟩ : ∃ z : World, z = wc := ⟨_, rfl⟩
          have HGF := Lib.hid hgen6
          have HNB := Lib.hid hN'
          have HWB6 := Lib.hid (hgo6.tb _ _ _ HWB5.out)
          have HRB6 := Lib.hid (hgo6.tb _ _ _ HRB5.out)
          clear hgen6 hgo6 hN'
          obtain ⟨v0, y0, t0, v1, y1, t1, v2, y2, t2, v3, y3, t3, f0, f1, f2, f3, g0, g1, g2, g3⟩ := HWB6.out.wld (by decide)
          obtain ⟨b0, o0, p0, b1, o1, p1, b2, o2, p2, b3, o3, p3, r0, r1, r2, r3, -⟩ := HRB6.out.wld (by decide)
          have z0 := HRB6.out.fz 0
          have z1 := HRB6.out.fz 1
          have z2 := HRB6.out.fz 2
          have z3 := HRB6.out.fz 3
          obtain ⟨hwg, hff, q0, q1', q2', q3'⟩ := wldFin HRB6.out g0 g1 g2 g3
          have HWG := Lib.hid hwg
          have HFF := Lib.hid (HGF.out.fin hff (c' := 30000000) HRB6.out.low hσ (by decide))
          clear g0 g1 g2 g3 hwg hff
          go_wp2_with fail
          refine bodyPost_ret (v := .agg #[.slice v0 y0 t0, .slice v1 y1 t1, .slice v2 y2 t2, .slice v3 y3 t3]) ?_ rfl ⟨_, _, N', rfl, HWG.out, HFF.out, fun x => by first | exact HNB.out x | omega⟩
          simp [results, Tryz.results14, go_sem, q0, q1', q2', q3']
end Go.Proofs.YtgobnlgmbplggaaGreatDoor
