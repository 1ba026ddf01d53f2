/- The law PlacesAbove, walked. -/
import Derived.Test.YtgobnlgmbplggaaGreatDoorK1
import Derived.Test.YtgobnlgmbplggaaGreatDoorK4
import Derived.Test.YtgobnlgmbplggaaGreatDoorE1
import Derived.Test.YtgobnlgmbplggaaGreatDoorEq
import Derived.Test.YtgobnlgmbplggaaGreatDoorAk
import Derived.Test.YtgobnlgmbplggaaGreatDoorWj
namespace Go.Proofs.YtgobnlgmbplggaaGreatDoor
open Go.RowKit

set_option maxHeartbeats 1600000 in
theorem placesKey_any (σ : St) (n kb : Nat) (w : World) (hs : Str σ w n) (hn : n ≤ 4611686018427387900) (hk : w.cell? ⟨kb, 0, none⟩ = some (.pointer (some ⟨σ.b, 0, none⟩))) :
    Calls Tryz.prog 21 #[.pointer (some ⟨kb, 0, none⟩)] w (StPost σ n 1 w (IsStr fun r => r.size ≤ 200)) := by
  have hlt := hs.lt
  have hkl : All w (w.alloc (.cells #[.string ⟨#[100, 101, 112, 116]⟩, .string ⟨#[105, 110, 115, 116]⟩, .string ⟨#[108, 97, 98]⟩, .string ⟨#[117, 110, 105]⟩, .string ⟨#[110, 111, 110, 101]⟩] 9)) := Kept.alloc _ _ _
  have htl : TB Θw w.heap.size (fun _ => 1000) (w.alloc (.cells #[.string ⟨#[100, 101, 112, 116]⟩, .string ⟨#[105, 110, 115, 116]⟩, .string ⟨#[108, 97, 98]⟩, .string ⟨#[117, 110, 105]⟩, .string ⟨#[110, 111, 110, 101]⟩] 9)) w.heap.size 0 5 := TB.litN (Θ := Θw) (kd := 0) (f := .s) (vs := [.string ⟨#[100, 101, 112, 116]⟩, .string ⟨#[105, 110, 115, 116]⟩, .string ⟨#[108, 97, 98]⟩, .string ⟨#[117, 110, 105]⟩, .string ⟨#[110, 111, 110, 101]⟩]) (by omega) rfl rfl ⟨⟨_, rfl, by decide⟩, ⟨_, rfl, by decide⟩, ⟨_, rfl, by decide⟩, ⟨_, rfl, by decide⟩, ⟨_, rfl, by decide⟩, trivial⟩
  have hk1 := hkl.cell hk trivial
  obtain ⟨w1, hw1⟩ : ∃ z, z = w.alloc (.cells #[.string ⟨#[100, 101, 112, 116]⟩, .string ⟨#[105, 110, 115, 116]⟩, .string ⟨#[108, 97, 98]⟩, .string ⟨#[117, 110, 105]⟩, .string ⟨#[110, 111, 110, 101]⟩] 9) := ⟨_, rfl⟩
  obtain ⟨lb, hlb⟩ : ∃ z, z = w.heap.size := ⟨_, rfl⟩
  rw [← hw1] at hkl htl
  rw [← hlb] at htl
  have HT := Lib.hid htl
  have HK := Lib.hid hkl
  have HW1 := Lib.hid hw1
  have HLB := Lib.hid hlb
  have hst := hs.keep hkl
  have hσl : σ.b < lb := by omega
  clear hs hkl htl hw1 hlb
  go_enter Tryz.func21, Tryz.ntmps21
  go_wp2_with fail
  simp only [← HLB.out, ← HW1.out]
  refine (next_any σ n 5 _ hst (by omega) (by omega) (by omega)).mono ?_
  rintro e w2 ⟨v, m, rfl, ⟨r, rfl, hr1, hr2⟩, h1, h2, hs2, hb2⟩
  obtain ⟨ri, rfl⟩ := Int.eq_ofNat_of_zero_le hr1
  obtain ⟨s, c0, hsz⟩ := ((Goes.but (Θ := Θw) (N := fun _ => 1000) hb2 hσl).tb _ _ _ HT.out).ldS (i := ri) (j := 0) (o := ri) (by omega) rfl (by show ri = ri * 1 + 0; omega)
  have HF := Lib.hid (show StPost σ n 1 w (IsStr fun r => r.size ≤ 200) (.returned (.string s)) w2 from ⟨_, m, rfl, ⟨s, rfl, hsz⟩, h1, h2, hs2, HK.out.all.trans hb2⟩)
  clear h1 h2 hs2 hb2 hst HT HK
  go_wp2_with fail
  go_ret
  exact HF.out
theorem one_abv (l : List Plc) (a : ByteArray) : firstV [placesF l, if (!hasP l a) = true then 8 else 0] = abvE l a := by
  simp only [firstV, abvE]
  by_cases h : placesF l = 0
  · cases hasP l a <;> simp [h]
  · simp [h]
theorem two_ins (l : List Plc) (a b : ByteArray) : firstV [abvE l a, if (!hasP l b) = true then 8 else 0] = insE l a b := by
  simp only [firstV, insE, abvE]
  by_cases h : placesF l = 0
  · rcases Bool.eq_false_or_eq_true (hasP l a) with ha | ha <;> rcases Bool.eq_false_or_eq_true (hasP l b) with hb | hb <;> simp [h, ha, hb]
  · simp [h]
theorem ins_abv {l : List Plc} {a b : ByteArray} (h : insE l a b = 0) : abvE l a = 0 := by
  unfold insE at h
  unfold abvE
  by_cases h0 : placesF l = 0
  · rw [if_neg (fun e => e h0)] at h ⊢
    split at h
    · cases h
    · rename_i h1
      rw [if_neg (fun e => h1 (Or.inl e))]
  · rw [if_pos h0] at h; exact absurd h h0
set_option maxRecDepth 100000 in
set_option maxHeartbeats 12800000 in
theorem placesAbove_walk (a : Option Addr) (len cap : Nat) (w : World) (h : IsRow w a len cap) (hG : Glob w) (hP : Big w) :
    Calls Tryz.prog 4 #[.slice a len cap] w fun e w' => e = .returned (.bool true) ∧ Below w.heap.size w w' := by
  have hst := h.start
  obtain ⟨σ, hσ⟩ : ∃ σ : St, σ = ⟨w.heap.size, a, len, cap⟩ := ⟨_, rfl⟩
  have hσb : σ.b = w.heap.size := by rw [hσ]
  rw [← hσ] at hst
  have Hptr := Lib.hid (show (Value.pointer (some ⟨w.heap.size, 0, none⟩)) = Value.pointer (some ⟨σ.b, 0, none⟩) by rw [hσb])
  have hk0 : All w (w.alloc (.cells #[.slice a len cap, .int .i64 0] 25)) := Kept.alloc _ _ _
  obtain ⟨w0, hw0⟩ : ∃ z, z = w.alloc (.cells #[.slice a len cap, .int .i64 0] 25) := ⟨_, rfl⟩
  rw [← hw0] at hst hk0
  have HW0 := Lib.hid hw0
  have HS0 := Lib.hid hst
  have hkb : All w0 (w0.alloc (.cells #[.pointer (some ⟨σ.b, 0, none⟩)] 23)) := Kept.alloc _ _ _
  have hbb := heap_at w0 (.cells #[.pointer (some ⟨σ.b, 0, none⟩)] 23) _ rfl
  obtain ⟨w0', hw0'⟩ : ∃ z, z = w0.alloc (.cells #[.pointer (some ⟨σ.b, 0, none⟩)] 23) := ⟨_, rfl⟩
  have hsz0 : w0.heap.size = w.heap.size + 1 := by rw [HW0.out]; simp
  rw [hsz0] at hbb
  obtain ⟨kb, hkbn⟩ : ∃ z, z = w.heap.size + 1 := ⟨_, rfl⟩
  rw [← hw0'] at hkb hbb
  rw [← hkbn] at hbb
  have HW0' := Lib.hid hw0'
  have HKN := Lib.hid hkbn
  have hkσ : kb ≠ σ.b := by have := hst.lt; omega
  have hst := hst.keep hkb
  have hsz : w0'.heap.size = kb + 1 := by rw [hw0', hkbn, ← hsz0]; simp
  have hσk : σ.b < kb := by have := HS0.out.lt; omega
  obtain ⟨B, hB⟩ : ∃ z, z = w0'.heap.size := ⟨_, rfl⟩
  have hσB : σ.b < B := by omega
  have hkB : kb < B := by omega
  have h7 : 7 < σ.b := by rw [hσb]; exact hP
  have HEND := Lib.hid (fun (wx : World) (k : Kept (fun b => b < B ∧ b ≠ σ.b) w0' wx) => (show Below w.heap.size w wx from ((hk0.trans hkb).all.trans k).below (Nat.le_refl _) (fun k hk => ⟨by omega, by omega⟩)))
  have HG0 := Lib.hid (hG.keep (hk0.trans hkb))
  have HGX0 := Lib.hid (show GenX σ B (fun _ => 8) (fun _ => 8) 0 0 w0' w0' 0 from ⟨hst, Nat.le_refl _, Nat.le_refl _, Kept.refl _ _, Goes.refl _ _ _ _, by rw [hB]; exact Nat.le_refl _⟩)
  clear hkbn hw0' hsz0 hsz hkb h hG hP hσ hσb hk0 hw0 hB hst
  have HBB := Lib.hid hbb
  clear hbb
  go_enter Tryz.func4, Tryz.ntmps4
  go_upto_region 2 with fail
  simp only [Hptr.out, ← HW0.out, ← HKN.out, ← HW0'.out]
  clear HW0 Hptr HKN HW0' HS0
  have hhi := HGX0.out.hi
  have e0 := cell_at (i := 0) HBB.out rfl
  go_wp2_with fail
  refine (worldGen_any σ 0 B (fun _ => 8) 2 w0' HGX0.out.st (by decide) h7 hσB HGX0.out.lt HG0.out (by decide) (fun _ => rfl)).mono ?_
  rintro e w2 ⟨v, n2, N2, rfl, ⟨a0, an0, ac0, a1, an1, ac1, a2, an2, ac2, a3, an3, ac3, rfl, g0, g1, g2, g3⟩, hgx, hn2⟩
  have HGX2 := Lib.hid (HGX0.out.gen hgx)
  have HN2 := Lib.hid hn2
  have hkl : All w2 (w2.alloc (.cells #[.slice a0 an0 ac0, .slice a1 an1 ac1, .slice a2 an2 ac2, .slice a3 an3 ac3] 31)) := Kept.alloc _ _ _
  have htl : TB Θw B N2 (w2.alloc (.cells #[.slice a0 an0 ac0, .slice a1 an1 ac1, .slice a2 an2 ac2, .slice a3 an3 ac3] 31)) w2.heap.size 7 1 := TB.lit1 (Θ := Θw) (kd := 7) (vs := [.slice a0 an0 ac0, .slice a1 an1 ac1, .slice a2 an2 ac2, .slice a3 an3 ac3]) hgx.lt (by decide) ⟨g0, g1, g2, g3, trivial⟩
  obtain ⟨w3, hw3⟩ : ∃ z, z = w2.alloc (.cells #[.slice a0 an0 ac0, .slice a1 an1 ac1, .slice a2 an2 ac2, .slice a3 an3 ac3] 31) := ⟨_, rfl⟩
  obtain ⟨wb, hwb⟩ : ∃ z, z = w2.heap.size := ⟨_, rfl⟩
  rw [← hw3] at hkl htl
  rw [← hwb] at htl
  have HW3 := Lib.hid hw3
  have HWN := Lib.hid hwb
  have HWB3 := Lib.hid htl
  have HGX3 := Lib.hid (HGX2.out.alls hσB hkl)
  have HB3 := Lib.hid (HGX3.out.kp.heap HBB.out ⟨hkB, hkσ⟩)
  clear e0 hgx hn2 g0 g1 g2 g3 hhi hkl htl hw3 hwb HGX2 HGX0
  go_upto_region 3 with fail
  simp only [← HWN.out, ← HW3.out]
  clear HWN HW3
  have e0 := cell_at (i := 0) HB3.out rfl
  have hst := HGX3.out.st
  have hhi := HGX3.out.hi
  go_wp2_with fail
  refine (flip_any σ n2 3 _ hst (by omega) (by omega) (by omega)).mono ?_
  rintro e w4 ⟨v, n4, rfl, ⟨b, rfl⟩, hA8, hB8, hs8, hb8⟩
  have HGX4 := Lib.hid (HGX3.out.call hσB hb8 hs8 hA8 hB8)
  have HWB4 := Lib.hid ((Goes.but (Θ := Θw) (N := N2) hb8 hσB).tb _ _ _ HWB3.out)
  have HB4 := Lib.hid (HGX4.out.kp.heap HBB.out ⟨hkB, hkσ⟩)
  clear hst hhi hs8 hb8 hA8 hB8 HGX3 HWB3 e0 HB3
  go_upto_if 21 with fail
  go_cut [] (fun wx => ∃ (N' : Nat → Nat) (m : Nat), (∀ x, 8 ≤ N' x ∧ N' x ≤ 102) ∧ GenX σ B (fun _ => 8) N' 0 80000000 w0' wx m ∧ TB Θw B N' wx wb 7 1)
  case first =>
    cases b with
    | false =>
      go_wp2_with fail
      go_meet
      exact ⟨N2, n4, fun x => by have := HN2.out x; omega, HGX4.out.up (by omega), HWB4.out⟩
    | true =>
      obtain ⟨v0, vn0, vc0, v1, vn1, vc1, v2, vn2, vc2, v3, vn3, vc3, f0, f1, f2, f3, g0, g1, g2, g3⟩ := HWB4.out.wld (by decide)
      have hhi := HGX4.out.hi
      have e0 := cell_at (i := 0) HB4.out rfl
      have HSP := Lib.hid (spoiledWorld_any σ n4 B N2 v0 vn0 vc0 v1 vn1 vc1 v2 vn2 vc2 v3 vn3 vc3 w4 HGX4.out.st (by omega) hσB HGX4.out.lt g0 g1 g2 g3 (fun x => (HN2.out x).1) (fun x => by have := HN2.out x; omega))
      clear g0 g1 g2 g3
      go_wp2_with fail
      refine HSP.out.mono ?_
      rintro e w7 ⟨v, m7, N7, rfl, ⟨u0, un0, uc0, u1, un1, uc1, u2, un2, uc2, u3, un3, uc3, rfl, g0, g1, g2, g3⟩, hgx, hn7⟩
      have HWB7 := Lib.hid (hgx.goes.tb _ _ _ HWB4.out)
      have HGX7 := Lib.hid (HGX4.out.gen hgx)
      have HN7 := Lib.hid (show ∀ x, 8 ≤ N7 x ∧ N7 x ≤ 102 from fun x => by have := HN2.out x; have := hn7 x; have := hgx.goes.le x; omega)
      obtain ⟨-, hff, q0', q1', q2', q3'⟩ := wldFin HWB7.out g0 g1 g2 g3
      obtain ⟨b0, o0, p0, b1, o1, p1, b2, o2, p2, b3, o3, p3, r0, r1, r2, r3, -⟩ := HWB7.out.wld (by decide)
      have z0 := HWB7.out.fz 0
      have z1 := HWB7.out.fz 1
      have z2 := HWB7.out.fz 2
      have z3 := HWB7.out.fz 3
      have HFF := Lib.hid (HGX7.out.fin hff (c' := 80000000) HWB7.out.low hσB (by omega))
      have HWB8 := Lib.hid (hff.1.tb _ _ _ HWB7.out)
      clear g0 g1 g2 g3 hgx hn7 hff q0' q1' q2' q3' HSP f0 f1 f2 f3 hhi
      go_wp2_with fail
      go_meet
      exact ⟨N7, m7, HN7.out, HFF.out, HWB8.out⟩
  case rest =>
  obtain ⟨N5, n5, hn5, hgx5, hwb5⟩ := hcut
  obtain ⟨w5, rfl⟩ : ∃ z : World, z = wc := ⟨_, rfl⟩
  have HN5 := Lib.hid hn5
  have HGX5 := Lib.hid hgx5
  have HWB5 := Lib.hid hwb5
  have HB5 := Lib.hid (hgx5.kp.heap HBB.out ⟨hkB, hkσ⟩)
  clear hn5 hgx5 hwb5 HWB4 HB4 HGX4 HN2
  have hhi := HGX5.out.hi
  have e0 := cell_at (i := 0) HB5.out rfl
  have HKY := Lib.hid (placesKey_any σ n5 kb w5 HGX5.out.st (by omega) e0)
  clear e0
  go_wp2_with fail
  refine HKY.out.mono ?_
  rintro e w6 ⟨v, n6, rfl, ⟨ka, rfl, hka⟩, hA8, hB8, hs8, hb8⟩
  have HGX6 := Lib.hid (HGX5.out.call hσB hb8 hs8 hA8 hB8)
  have HWB6 := Lib.hid ((Goes.but (Θ := Θw) (N := N5) hb8 hσB).tb _ _ _ HWB5.out)
  have HB6 := Lib.hid (HGX6.out.kp.heap HBB.out ⟨hkB, hkσ⟩)
  have HKZ := Lib.hid hka
  clear hhi hs8 hb8 hA8 hB8 HGX5 HWB5 HB5 hka HKY
  have hhi := HGX6.out.hi
  have HKY := Lib.hid (placesKey_any σ n6 kb w6 HGX6.out.st (by omega) (cell_at (i := 0) HB6.out rfl))
  go_wp2_with fail
  refine HKY.out.mono ?_
  rintro e w7 ⟨v, n7, rfl, ⟨kc, rfl, hkc⟩, hA8, hB8, hs8, hb8⟩
  have HGX7 := Lib.hid (HGX6.out.call hσB hb8 hs8 hA8 hB8)
  have hwb7 := (Goes.but (Θ := Θw) (N := N5) hb8 hσB).tb _ _ _ HWB6.out
  obtain ⟨v0, vn0, vc0, f0, hvn, g0⟩ := hwb7.ldL (i := 0) (j := 0) (o := 0) (by decide) rfl (by decide)
  obtain ⟨l, hl, -⟩ := g0.plcs
  have HL := Lib.hid (show ∀ wx, All w7 wx → Sl RPlc 2 (fun _ => True) wx v0 vn0 l from fun wx k => (hl.mono RPlc.ok (fun _ _ => trivial)).keep RPlc.ok k)
  have hv0 : vn0 ≤ 1000 := by have := HN5.out 1; omega
  have hza : ka.size ≤ 1000000 := Nat.le_trans HKZ.out (by decide)
  have hzc : kc.size ≤ 1000000 := Nat.le_trans hkc (by decide)
  have HF0 := Lib.hid f0
  have HGL := Lib.hid (HGX7.out.glob h7 hσB HG0.out)
  have hbig : 7 < w7.heap.size := Nat.lt_of_lt_of_le (Nat.lt_trans h7 hσB) HGX7.out.lt
  have HFIN := Lib.hid (fun (wx : World) (k : All w7 wx) => HEND.out wx (HGX7.out.kp.trans k.all))
  have HUL := Lib.hid (show (upL l ka).length ≤ 1000000 from by have := aboveL_len (l := l) (l.length + 1) ka; have := hl.len; show (aboveL l (l.length + 1) ka).length ≤ 1000000; omega)
  have M1 := Lib.hid (insideP_any v0 vn0 vc0 l ka kc w7 (HL.out _ (Kept.refl _ _)) (by omega) hza hzc)
  clear hhi hs8 hb8 hA8 hB8 HGX6 HWB6 HB6 HKZ HKY hwb7 hvn g0 hl hkc
  go_wp2_with fail
  refine M1.out.mono ?_
  rintro e wa ⟨rfl, hwa⟩
  clear M1 f0
  have f0 := hwa.cell HF0.out trivial
  have M2 := Lib.hid (aboveP_any v0 vn0 vc0 l ka wa (HL.out _ hwa) (by omega) hza)
  go_wp2_with fail
  refine M2.out.mono ?_
  rintro e wd h2
  obtain ⟨av, cv, rfl, hav, hwd'⟩ := h2.slice
  have hwd := hwa.trans hwd'
  have HAV := Lib.hid (fun (wx : World) (k : All wd wx) => hav.keep RStr.ok k)
  clear f0 M2 h2 hav hwd'
  have f0 := hwd.cell HF0.out trivial
  have M3 := Lib.hid (placesFaultR_any v0 vn0 vc0 l wd (HL.out _ hwd) (by omega))
  go_wp2_with fail
  refine M3.out.mono ?_
  rintro e we ⟨rfl, hwe'⟩
  have hwe := hwd.trans hwe'
  have HDE := Lib.hid hwe'
  clear f0 M3 hwe'
  have f0 := hwe.cell HF0.out trivial
  have M4 := Lib.hid (placeAt_any v0 vn0 vc0 l ka we (HL.out _ hwe) (by omega))
  have hpa := placeAtF_neg l ka
  go_wp2_with fail
  refine M4.out.mono ?_
  rintro e wf ⟨rfl, hwf'⟩
  have hwf := hwe.trans hwf'
  have HDF := Lib.hid (HDE.out.trans hwf')
  clear f0 M4 hwf' HDE
  go_wp2_with fail
  refine (whenV_any (!hasP l ka) 8 wf).mono ?_
  rintro e wg ⟨rfl, rfl⟩
  clear hpa
  have H8 := Lib.hid (one_abv l ka)
  generalize (if (!hasP l ka) = true then (8 : Int) else 0) = wa8 at *
  have hkl : All wf (wf.alloc (.cells #[.int .i64 (placesF l), .int .i64 wa8] 39)) := Kept.alloc _ _ _
  have hbl := heap_at wf (.cells #[.int .i64 (placesF l), .int .i64 wa8] 39) _ rfl
  have M5 := Lib.hid (errsV_any (some ⟨wf.heap.size, 0, none⟩) 2 2 [placesF l, wa8] _ (Sl.lit_ints [placesF l, wa8] hbl rfl trivial) (by decide))
  rw [H8.out] at M5
  have hwg := hwf.trans hkl
  have HDG := Lib.hid (HDF.out.trans hkl)
  clear hkl hbl HDF H8
  go_wp2_with fail
  refine M5.out.mono ?_
  rintro e wg ⟨rfl, hh⟩
  rw [hh] at hwg HDG
  clear hh M5 hwf hwe hwd
  have f0 := hwg.cell HF0.out trivial
  have M6 := Lib.hid (placeAt_any v0 vn0 vc0 l kc wg (HL.out _ hwg) (by omega))
  have hpa := placeAtF_neg l kc
  go_wp2_with fail
  refine M6.out.mono ?_
  rintro e wh ⟨rfl, hwh'⟩
  have hwh := hwg.trans hwh'
  have HDH := Lib.hid (HDG.out.trans hwh')
  clear f0 M6 hwh' HDG
  go_wp2_with fail
  refine (whenV_any (!hasP l kc) 8 wh).mono ?_
  rintro e wi ⟨rfl, rfl⟩
  clear hpa
  have H9 := Lib.hid (two_ins l ka kc)
  generalize (if (!hasP l kc) = true then (8 : Int) else 0) = wa9 at *
  have hkl : All wh (wh.alloc (.cells #[.int .i64 (abvE l ka), .int .i64 wa9] 39)) := Kept.alloc _ _ _
  have hbl := heap_at wh (.cells #[.int .i64 (abvE l ka), .int .i64 wa9] 39) _ rfl
  have M7 := Lib.hid (errsV_any (some ⟨wh.heap.size, 0, none⟩) 2 2 [abvE l ka, wa9] _ (Sl.lit_ints [abvE l ka, wa9] hbl rfl trivial) (by decide))
  rw [H9.out] at M7
  have hwi := hwh.trans hkl
  have HDI := Lib.hid (HDH.out.trans hkl)
  clear hkl hbl HDH H9
  go_wp2_with fail
  refine M7.out.mono ?_
  rintro e wi ⟨rfl, hh⟩
  rw [hh] at hwi HDI
  clear hh M7 hwh hwg
  by_cases h2 : insE l ka kc = 0
  · have h1 := ins_abv h2
    have hI : insV l ka kc = inL l ka kc := by rw [insV, decide_eq_true h2]; rfl
    have hU : abvV l ka = upL l ka := if_pos h1
    have M8 := Lib.hid (insideOf_any v0 vn0 vc0 l ka kc wi (HL.out _ hwi) (by omega) hza)
    simp only [hU] at HAV
    simp only [h1, h2, hI, hU]
    generalize inL l ka kc = bi at M8 ⊢
    clear h1 h2 hI hU
    have hbb : (bi != bi) = false := by simp
    have f0 := hwi.cell HF0.out trivial
    go_wp2_with fail
    refine M8.out.mono ?_
    rintro e wj ⟨rfl, hwj'⟩
    have hwj := hwi.trans hwj'
    have HDJ := Lib.hid (HDI.out.trans hwj')
    clear f0 M8 hwj'
    have f0 := hwj.cell HF0.out trivial
    have M9 := Lib.hid (aboveOf_any v0 vn0 vc0 l ka wj (HL.out _ hwj) (by omega) hza)
    go_wp2_with fail
    refine M9.out.mono ?_
    rintro e wk h9
    obtain ⟨bv, dv, rfl, hbv, hwk'⟩ := h9.slice
    have hwk := hwj.trans hwk'
    have M10 := Lib.hid (equalStr_same av (upL l ka).length cv bv (upL l ka).length dv (upL l ka) wk (HAV.out _ (HDJ.out.trans hwk')) hbv HUL.out)
    clear f0 M9 h9 hbv hwk'
    go_wp2_with fail
    refine M10.out.mono ?_
    rintro e wl ⟨rfl, hwl'⟩
    have hwl := hwk.trans hwl'
    clear M10 hwl'
    have M11 := Lib.hid (known_any wl (HGL.out.keep hwl) (Nat.lt_of_lt_of_le hbig hwl.size))
    go_wp2_with fail
    refine M11.out.mono ?_
    rintro e wm ⟨rfl, hwm'⟩
    have HE := Lib.hid (HFIN.out _ (hwl.trans hwm'))
    clear M11 hwm'
    go_wp2_with fail
    go_ret
    exact ⟨rfl, HE.out⟩
  · have hI : insV l ka kc = false := by rw [insV, decide_eq_false h2]; rfl
    by_cases h1 : abvE l ka = 0
    · have hU : abvV l ka = upL l ka := if_pos h1
      simp only [hU] at HAV
      simp only [h1, hI, hU]
      clear h1 hI hU
      generalize insE l ka kc = z2 at h2 ⊢
      have hx21 : (z2 == 0) = false := by rw [beq_eq_false_iff_ne]; exact h2
      have hx22 : (z2 != 0) = true := by rw [bne, hx21]; rfl
      have hbb : (z2 != z2) = false := by simp
      clear h2
      have f0 := hwi.cell HF0.out trivial
      have M9 := Lib.hid (aboveOf_any v0 vn0 vc0 l ka wi (HL.out _ hwi) (by omega) hza)
      go_wp2_with fail
      refine M9.out.mono ?_
      rintro e wk h9
      obtain ⟨bv, dv, rfl, hbv, hwk'⟩ := h9.slice
      have hwk := hwi.trans hwk'
      have M10 := Lib.hid (equalStr_same av (upL l ka).length cv bv (upL l ka).length dv (upL l ka) wk (HAV.out _ (HDI.out.trans hwk')) hbv HUL.out)
      clear f0 M9 h9 hbv hwk'
      go_wp2_with fail
      refine M10.out.mono ?_
      rintro e wl ⟨rfl, hwl'⟩
      have hwl := hwk.trans hwl'
      clear M10 hwl'
      have M11 := Lib.hid (known_any wl (HGL.out.keep hwl) (Nat.lt_of_lt_of_le hbig hwl.size))
      go_wp2_with fail
      refine M11.out.mono ?_
      rintro e wm ⟨rfl, hwm'⟩
      have HE := Lib.hid (HFIN.out _ (hwl.trans hwm'))
      clear M11 hwm'
      go_wp2_with fail
      go_ret
      exact ⟨rfl, HE.out⟩
    · have hU : abvV l ka = [] := if_neg h1
      simp only [hI, hU, List.length_nil]
      clear hI hU
      generalize insE l ka kc = z2 at h2 ⊢
      generalize abvE l ka = z1 at h1 ⊢
      have hx21 : (z2 == 0) = false := by rw [beq_eq_false_iff_ne]; exact h2
      have hx22 : (z2 != 0) = true := by rw [bne, hx21]; rfl
      have hx11 : (z1 == 0) = false := by rw [beq_eq_false_iff_ne]; exact h1
      have hx12 : (z1 != 0) = true := by rw [bne, hx11]; rfl
      have hbb : (z2 != z2) = false := by simp
      have hbc : (z1 != z1) = false := by simp
      clear h1 h2
      have M11 := Lib.hid (known_any wi (HGL.out.keep hwi) (Nat.lt_of_lt_of_le hbig hwi.size))
      go_wp2_with fail
      refine M11.out.mono ?_
      rintro e wm ⟨rfl, hwm'⟩
      have HE := Lib.hid (HFIN.out _ (hwi.trans hwm'))
      clear M11 hwm'
      go_wp2_with fail
      go_ret
      exact ⟨rfl, HE.out⟩
end Go.Proofs.YtgobnlgmbplggaaGreatDoor
