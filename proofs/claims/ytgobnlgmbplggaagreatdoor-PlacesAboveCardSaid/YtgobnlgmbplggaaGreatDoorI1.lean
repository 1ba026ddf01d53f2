/- A block of RightWorld by itself. -/
import Derived.Test.YtgobnlgmbplggaaGreatDoorZx
namespace Go.Proofs.YtgobnlgmbplggaaGreatDoor
open Go.RowKit

noncomputable def rw_loop3_code : Code := (Tryz.f57.body.bind (findBlock 4)).getD .skip
set_option maxRecDepth 100000 in
set_option maxHeartbeats 102400000 in
theorem rw_loop3 (σ : St) (n B : Nat) (N N1 : Nat → Nat) (pp m2 : Nat) (w0 wC : World) (rb wb lb kb kn : Nat) (pa : Option Addr) (pn pc : Nat) (hn : n ≤ 4611686018400000000) (h7 : 7 < σ.b) (hσ : σ.b < B) (HG0 : Hid (Glob w0)) (HNB1 : Hid (Nb N1 4 0)) (HKB : Hid (wC.heap[kb]? = some (.cells ks0 9))) (HGXC : Hid (GenX σ B N N1 n 3000 w0 wC m2)) (HWBC : Hid (TB Θw B N1 wC wb 7 1)) (HKS : Hid (kb ≠ σ.b)) (hkn7 : kn ≤ 7)
    (u6 u7 u8 u9 u10 u20 u21 u22 u23 u24 u25 u26 u27 u28 u29 u30 u31 u32 u33 u34 u35 u36 u37 u38 u39 u40 u41 u42 u43 u44 u45 u46 u47 u48 u49 u50 u51 u52 u53 u57 u58 u59 u60 u61 u62 u63 u64 u65 u66 u67 u68 u69 u70 u71 u72 u73 u74 u75 : Value) (J K' : Act → World → Prop) (Q' : Exit → Act → World → Prop) (hM : ∀ (a' : Act) (w' : World), Met J a' w' → K' a' w')
    (hJ : ∀ (a' : Act) (w' : World), (∃ u13 u14 u15 u82 u83 u84 u85 u86 u87 u88 u89 u90 u91 u92 u93 u94 u95 u96 u97 u98 u99 u100 u101 u102 u103 u104 u105 u106 u107 u108 u109 u110 u111 u112 u113 u114 u115 u116 u117 u118 u119 u120 u121 u122 u123 u124 u125 u126 u127 u128 u129 u130 u131 u132 u133 u134 u135 u136 u137 u138 u139 u140 u141 u142 u143 u144 u145 u146 u147 u148 u149 u150 u151 u152 u153 u154 u155 u156 u157 u158 u159 u160 u161 u162 u163 u164 u165 u166 u167 u168 u169 u170 u171 u172 u173 u174 u175 u176 u177 u178 u179 u180 u181 u182 u183 u184 u185 u186 u187 u188 u189, (∃ N' m, Nb N' 32 0 ∧ GenX σ B N N' n 20000 w0 w' m ∧ Goes Θw B N1 wC N' w' ∧ w'.heap[kb]? = some (.cells ks0 9)) ∧  a' = ⟨#[.pointer (some ⟨σ.b, 0, none⟩), .int .i64 (pp : Int), undef, undef, .pointer (some ⟨rb, 0, none⟩), .pointer (some ⟨wb, 0, none⟩), u6, u7, u8, u9, u10, .slice (some ⟨kb, 0, none⟩) kn 7, undef, u13, u14, u15, undef, undef, .slice (some ⟨lb, 0, none⟩) 4 4, .int .i64 4, u20, u21, u22, u23, u24, u25, u26, u27, u28, u29, u30, u31, u32, u33, u34, u35, u36, u37, u38, u39, u40, u41, u42, u43, u44, u45, u46, u47, u48, u49, u50, u51, u52, u53, .pointer (some ⟨wb, 0, none⟩), .slice pa pn pc, .int .i64 (pn : Int), u57, u58, u59, u60, u61, u62, u63, u64, u65, u66, u67, u68, u69, u70, u71, u72, u73, u74, u75, .slice (some ⟨kb, 0, none⟩) 7 7, .int .i64 (pp : Int), .int .i64 (kn : Int), .slice (some ⟨kb, 0, none⟩) kn 7, .slice (some ⟨kb, 0, none⟩) kn 7, .int .i64 (kn : Int), u82, u83, u84, u85, u86, u87, u88, u89, u90, u91, u92, u93, u94, u95, u96, u97, u98, u99, u100, u101, u102, u103, u104, u105, u106, u107, u108, u109, u110, u111, u112, u113, u114, u115, u116, u117, u118, u119, u120, u121, u122, u123, u124, u125, u126, u127, u128, u129, u130, u131, u132, u133, u134, u135, u136, u137, u138, u139, u140, u141, u142, u143, u144, u145, u146, u147, u148, u149, u150, u151, u152, u153, u154, u155, u156, u157, u158, u159, u160, u161, u162, u163, u164, u165, u166, u167, u168, u169, u170, u171, u172, u173, u174, u175, u176, u177, u178, u179, u180, u181, u182, u183, u184, u185, u186, u187, u188, u189, undef, undef, undef, undef, undef, undef, undef, undef, undef, undef, undef, undef, undef, undef, undef, undef, undef, undef, undef, undef, undef, undef, undef, undef, undef, undef, undef, undef, undef, undef, undef, undef, undef, undef, undef, undef, undef, undef, undef, undef, undef, undef, undef, undef, undef, undef, undef, undef, undef, undef, undef, undef, undef, undef, undef, undef, undef, undef, undef, undef, undef, undef, undef, undef, undef, undef, undef, undef, undef, undef, undef, undef, undef, undef], []⟩) → J a' w') :
    Code.wp Tryz.prog rw_loop3_code (Exit.then K' Q') ⟨#[.pointer (some ⟨σ.b, 0, none⟩), .int .i64 (pp : Int), undef, undef, .pointer (some ⟨rb, 0, none⟩), .pointer (some ⟨wb, 0, none⟩), u6, u7, u8, u9, u10, .slice (some ⟨kb, 0, none⟩) kn 7, undef, undef, undef, undef, undef, undef, .slice (some ⟨lb, 0, none⟩) 4 4, .int .i64 4, u20, u21, u22, u23, u24, u25, u26, u27, u28, u29, u30, u31, u32, u33, u34, u35, u36, u37, u38, u39, u40, u41, u42, u43, u44, u45, u46, u47, u48, u49, u50, u51, u52, u53, .pointer (some ⟨wb, 0, none⟩), .slice pa pn pc, .int .i64 (pn : Int), u57, u58, u59, u60, u61, u62, u63, u64, u65, u66, u67, u68, u69, u70, u71, u72, u73, u74, u75, .slice (some ⟨kb, 0, none⟩) 7 7, .int .i64 (pp : Int), .int .i64 (kn : Int), .slice (some ⟨kb, 0, none⟩) kn 7, .slice (some ⟨kb, 0, none⟩) kn 7, .int .i64 (kn : Int), .int .i64 0, undef, undef, undef, undef, undef, undef, undef, undef, undef, undef, undef, undef, undef, undef, undef, undef, undef, undef, undef, undef, undef, undef, undef, undef, undef, undef, undef, undef, undef, undef, undef, undef, undef, undef, undef, undef, undef, undef, undef, undef, undef, undef, undef, undef, undef, undef, undef, undef, undef, undef, undef, undef, undef, undef, undef, undef, undef, undef, undef, undef, undef, undef, undef, undef, undef, undef, undef, undef, undef, undef, undef, undef, undef, undef, undef, undef, undef, undef, undef, undef, undef, undef, undef, undef, undef, undef, undef, undef, undef, undef, undef, undef, undef, undef, undef, undef, undef, undef, undef, undef, undef, undef, undef, undef, undef, undef, undef, undef, undef, undef, undef, undef, undef, undef, undef, undef, undef, undef, undef, undef, undef, undef, undef, undef, undef, undef, undef, undef, undef, undef, undef, undef, undef, undef, undef, undef, undef, undef, undef, undef, undef, undef, undef, undef, undef, undef, undef, undef, undef, undef, undef, undef, undef, undef, undef, undef, undef, undef, undef, undef, undef, undef, undef, undef, undef, undef, undef, undef, undef, undef, undef, undef, undef, undef, undef, undef, undef, undef, undef, undef, undef], []⟩ wC := by
  let Qb : Exit → Act → World → Prop := bodyPost Tryz.prog Tryz.f57 (fun _ _ => True)
  conv => arg 2; whnf
  go_wp2_with fail
  go_loopw [82] (fun i wr => ∃ (k : Nat) (N' : Nat → Nat) (m : Nat), k ≤ kn ∧ i = .int .i64 k ∧ Nb N' (4 + 4 * k) 0 ∧ GenX σ B N N' n (4000 + 2000 * k) w0 wr m ∧ Goes Θw B N1 wC N' wr ∧ wr.heap[kb]? = some (.cells ks0 9)) (fun i _ => kn - (intOf i).toNat)
  case atStart => exact ⟨0, N1, m2, Nat.zero_le _, rfl, HNB1.out, HGXC.out.up (by omega), Goes.refl _ _ _ _, HKB.out⟩
  case round =>
    obtain ⟨k, N', m, hk, rfl, hnb, hgen, hgoes, hkb⟩ := hrel
    obtain ⟨wo, rfl⟩ : ∃ z : World, z = wr := ⟨_, rfl⟩
    have HNB := Lib.hid hnb
    have HGY := Lib.hid hgen
    have HGO := Lib.hid hgoes
    have HKO := Lib.hid hkb
    have HWB := Lib.hid (hgoes.tb _ _ _ HWBC.out)
    clear hnb hgen hgoes hkb
    by_cases hlt : k < kn
    case neg =>
      have hd : decide ((k : Int) < (kn : Int)) = false := by simp; omega
      go_wp2_with fail
      go_meet
      exact ⟨N', m, HNB.out.mono (by omega) (Nat.le_refl _), HGY.out.up (by omega), HGO.out, HKO.out⟩
    have hd : decide ((k : Int) < (kn : Int)) = true := by simp; omega
    obtain ⟨ks, hks1, hks⟩ := keysAt (show k < 7 by omega)
    have c0 := cell_at (i := k) HKO.out hks1
    have q1 : (0 : Int) ≤ (k : Int) := by omega
    have q2 : (k : Int) < (kn : Int) := by omega
    obtain ⟨pa, pn, pc, f0, hpn, hpg⟩ := HWB.out.ldL (i := 0) (j := 0) (o := 0) (by decide) rfl (by decide)
    have hwl := HWB.out.lt
    have hkl : All wo (wo.alloc (.cells #[.string ⟨#[65, 110, 110, 32, 76, 101, 101]⟩, .int .i64 0] 99)) := Kept.alloc _ _ _
    have htn : TB Θw B N' (wo.alloc (.cells #[.string ⟨#[65, 110, 110, 32, 76, 101, 101]⟩, .int .i64 0] 99)) wo.heap.size 2 1 := TB.lit1 (Θ := Θw) (kd := 2) (vs := [.string ⟨#[65, 110, 110, 32, 76, 101, 101]⟩, .int .i64 0]) HGY.out.lt (by decide) ⟨⟨_, rfl, by decide⟩, ⟨_, rfl, by decide, by decide⟩, trivial⟩
    obtain ⟨w2', hw2⟩ : ∃ z, z = wo.alloc (.cells #[.string ⟨#[65, 110, 110, 32, 76, 101, 101]⟩, .int .i64 0] 99) := ⟨_, rfl⟩
    obtain ⟨nb, hnbn⟩ : ∃ z, z = wo.heap.size := ⟨_, rfl⟩
    rw [← hw2] at hkl htn
    rw [← hnbn] at htn
    have HW2 := Lib.hid hw2
    have HNN := Lib.hid hnbn
    have HGY2 := Lib.hid (HGY.out.alls hσ hkl)
    have HTN := Lib.hid htn
    have HPG := Lib.hid (hpg.goes (Goes.all hkl))
    have HWB2 := Lib.hid ((Goes.all (Θ := Θw) (N := N') hkl).tb _ _ _ HWB.out)
    have HGO2 := Lib.hid (HGO.out.trans (Goes.all hkl))
    have HKO2 := Lib.hid (hkl.heap HKO.out trivial)
    have hst := HGY2.out.st
    have hhi := HGY2.out.hi
    clear hkl htn hw2 hnbn hpg
    go_upto_region 22 with fail
    clear c0
    go_wp2_with fail
    simp only [← HNN.out, ← HW2.out]
    refine (homes_any σ m B N' pa pn pc w2' hst (by omega) hσ HGY2.out.lt HPG.out (fun x => (HNB.out x).1) (fun x => by have := HNB.out x; omega)).mono ?_
    rintro e w3 ⟨v, m3, rfl, hgv, hgw, hkst⟩
    obtain ⟨ha, hl, hc, rfl, -⟩ := hgv.slice
    have HGX3 := Lib.hid (HGY2.out.gen (hgw.x HGY2.out.lt))
    have HGO3 := Lib.hid (HGO2.out.trans hgw.goes)
    have hgp := hgw.goes.tb _ _ _ HTN.out
    have HKO3 := Lib.hid (hkst.heap HKO2.out ⟨HKS.out, _, _, HKO2.out⟩)
    have hkp : All w3 (w3.alloc (.cells #[.string ks, .slice (some ⟨nb, 0, none⟩) 1 1, .slice ha hl hc, .slice none 0 0, .slice none 0 0] 97)) := Kept.alloc _ _ _
    have htp : TB Θw B N' (w3.alloc (.cells #[.string ks, .slice (some ⟨nb, 0, none⟩) 1 1, .slice ha hl hc, .slice none 0 0, .slice none 0 0] 97)) w3.heap.size 5 1 := TB.lit1 (Θ := Θw) (kd := 5) (vs := [.string ks, .slice (some ⟨nb, 0, none⟩) 1 1, .slice ha hl hc, .slice none 0 0, .slice none 0 0]) HGX3.out.lt (by decide) ⟨⟨_, rfl, Nat.le_trans hks (by decide)⟩, hgp.gd (by have := HNB.out 2; omega), hgv, Or.inl ⟨_, rfl⟩, Or.inl ⟨_, rfl⟩, trivial⟩
    have hpe := heap_at w3 (.cells #[.string ks, .slice (some ⟨nb, 0, none⟩) 1 1, .slice ha hl hc, .slice none 0 0, .slice none 0 0] 97) _ rfl
    obtain ⟨w4, hw4⟩ : ∃ z, z = w3.alloc (.cells #[.string ks, .slice (some ⟨nb, 0, none⟩) 1 1, .slice ha hl hc, .slice none 0 0, .slice none 0 0] 97) := ⟨_, rfl⟩
    obtain ⟨pb, hpb⟩ : ∃ z, z = w3.heap.size := ⟨_, rfl⟩
    rw [← hw4] at hkp htp hpe
    rw [← hpb] at htp hpe
    have HW4 := Lib.hid hw4
    have HPN := Lib.hid hpb
    have HGX4 := Lib.hid (HGX3.out.alls hσ hkp)
    have HGO4 := Lib.hid (HGO3.out.trans (Goes.all hkp))
    have HTP := Lib.hid htp
    have HTN4 := Lib.hid ((Goes.all hkp).tb _ _ _ hgp)
    have HWB4 := Lib.hid ((hgw.goes.trans (Goes.all hkp)).tb _ _ _ HWB2.out)
    have HKO4 := Lib.hid (hkp.heap HKO3.out trivial)
    have HC1 := Lib.hid (cell_at (i := 1) hpe rfl)
    have HC3 := Lib.hid (cell_at (i := 3) hpe rfl)
    clear hgv hgw hkst hgp hkp htp hpe hw4 hpb HW2 HNN HGY HGO HKO HWB HGY2 HTN HPG HWB2 HGO2 HKO2 hst f0 hwl HGX3 HGO3 HKO3
    go_upto_region 23 with fail
    simp only [← HPN.out, ← HW4.out]
    have HST := Lib.hid HGX4.out.st
    have HLT := Lib.hid HGX4.out.lt
    have hmb3 := HGX4.out.hi
    have HPS := Lib.hid (show pb ≠ σ.b by have := HTP.out.low; omega)
    refine wp_region_ty 6 (by kernel_rfl) (by kernel_rfl) (RT Θw σ B N' N' (fun w => But σ.b w4 w) w4 m3 999 999)
      (DL [QIs (.pointer (some ⟨pb, 1, none⟩)), QIs (.slice (some ⟨nb, 0, none⟩) 1 1), QIs (.pointer (some ⟨σ.b, 0, none⟩)), PG Θw B N' .s, QIs (.pointer (some ⟨nb, 0, none⟩)), QIs (.pointer (some ⟨nb, 0, none⟩))]) (fun w w' => Goes Θw B N' w N' w')
      (DL.keep (by simp only [List.forall_mem_cons, List.not_mem_nil, false_implies, implies_true, and_true]; exact ⟨QIs.stays' _, QIs.stays' _, QIs.stays' _, PG.stays _, QIs.stays' _, QIs.stays' _⟩)) ?_ ?_ ?_
    · exact ⟨⟨m3, HST.out.keep (Kept.drew _ _), Nat.le_refl _, by omega⟩, Kept.drew _ _, HLT.out, by rw [if_neg (by decide)]; exact Goes.all (Kept.drew _ _), fun h => (by cases h), Kept.drew _ _⟩
    · intro i o ho hi kq L a' wx hkq hrt hL hdf hts hoth hld hdeps
      have hkz : kq < 6 := hkq
      have hz : i = 0 ∨ i = 1 ∨ i = 2 ∨ i = 3 ∨ i = 4 ∨ i = 5 := by have : i < 6 := hi; omega
      rcases hz with rfl | rfl | rfl | rfl | rfl | rfl
      · obtain rfl := Option.some.inj ho
        have e : a'.tmps.getD 14 undef = .pointer (some ⟨pb, 0, none⟩) := tmp_of ((hoth 14 (by decide)).trans rfl)
        clear hoth hdeps hdf hts ho hld
        refine wp_via (fun K' hK => ?_)
        have HK := Lib.hid hK
        clear hK
        go_simp
        exact HK.out _ _ ⟨_, rfl, hrt.same (by decide), Goes.refl _ _ _ _, fun _ => rfl⟩
      · obtain rfl := Option.some.inj ho
        have e : a'.tmps.getD 94 undef = .pointer (some ⟨pb, 1, none⟩) := hdeps 0 (by decide) 94 rfl
        have c0 := hrt.ex.cell HC1.out HPS.out
        clear hoth hdeps hdf hts ho hld
        refine wp_via (fun K' hK => ?_)
        have HK := Lib.hid hK
        clear hK
        go_simp
        exact HK.out _ _ ⟨_, rfl, hrt.same (by decide), Goes.refl _ _ _ _, fun _ => rfl⟩
      · obtain rfl := Option.some.inj ho
        have e : a'.tmps.getD 0 undef = .pointer (some ⟨σ.b, 0, none⟩) := tmp_of ((hoth 0 (by decide)).trans rfl)
        clear hoth hdeps hdf hts ho hld
        refine wp_via (fun K' hK => ?_)
        have HK := Lib.hid hK
        clear hK
        go_simp
        exact HK.out _ _ ⟨_, rfl, hrt.same (by decide), Goes.refl _ _ _ _, fun _ => rfl⟩
      · obtain rfl := Option.some.inj ho
        have e0 : a'.tmps.getD 96 undef = .pointer (some ⟨σ.b, 0, none⟩) := hdeps 2 (by decide) 96 rfl
        obtain ⟨m, hst, hm1, hm2⟩ := hrt.st
        clear hoth hdeps hdf hts ho hld
        refine wp_via (fun K' hK => ?_)
        have HK := Lib.hid hK
        clear hK
        go_simp
        refine (someName_any σ m wx hst (by omega)).mono ?_
        rintro e w2 ⟨v, m2, rfl, ⟨r, rfl, hr⟩, hA, hB, hs2, hb2⟩
        exact HK.out _ _ ⟨_, rfl, hrt.call (by decide) hm1 hm2 hA hB (by decide) hs2 hb2 hσ (hrt.ex.trans hb2), Goes.but hb2 hσ, fun _ => ⟨r, rfl, hr⟩⟩
      · obtain rfl := Option.some.inj ho
        have e : a'.tmps.getD 95 undef = .slice (some ⟨nb, 0, none⟩) 1 1 := hdeps 1 (by decide) 95 rfl
        clear hoth hdeps hdf hts ho hld
        refine wp_via (fun K' hK => ?_)
        have HK := Lib.hid hK
        clear hK
        go_simp
        exact HK.out _ _ ⟨_, rfl, hrt.same (by decide), Goes.refl _ _ _ _, fun _ => rfl⟩
      · obtain rfl := Option.some.inj ho
        have e : a'.tmps.getD 98 undef = .pointer (some ⟨nb, 0, none⟩) := hdeps 4 (by decide) 98 rfl
        clear hoth hdeps hdf hts ho hld
        refine wp_via (fun K' hK => ?_)
        have HK := Lib.hid hK
        clear hK
        go_simp
        exact HK.out _ _ ⟨_, rfl, hrt.same (by decide), Goes.refl _ _ _ _, fun _ => rfl⟩
    · intro L wx f hrt hdl
      have pa9 : f 99 = .pointer (some ⟨nb, 0, none⟩) := hdl 5 99 (by decide) rfl
      obtain ⟨ps9s, ps9, ps9z⟩ : ∃ s : ByteArray, f 97 = .string s ∧ s.size ≤ 200 := hdl 3 97 (by decide) rfl
      rw [show dsts _ _ = [94, 95, 96, 97, 98, 99] from by kernel_rfl]
      simp only [List.map_cons, List.map_nil, puts, Act.put, pa9, ps9]
      generalize f 94 = f94
      generalize f 95 = f95
      generalize f 96 = f96
      generalize f 98 = f98
      simp only [List.setIfInBounds_toArray, List.set_cons_zero, List.set_cons_succ]
      clear hdl pa9 ps9 f
      obtain ⟨mz, hstz, hmz1, hmz2⟩ := hrt.st
      have hgoz := Lib.hid (hrt.goes (fun _ => Nat.le_refl _))
      have hkpz := Lib.hid hrt.kp
      have hltz := Lib.hid hrt.lt
      have hstz := Lib.hid hstz
      have hexz := Lib.hid hrt.ex
      clear hrt
      have HKX := Lib.hid (hexz.out)
      have HNN2 := Lib.hid (HTN4.out.notSame HTP.out (by decide))
      have HGX5 := Lib.hid (show GenX σ B N N' n (4000 + 2000 * k + 900) w0 wx mz from ⟨hstz.out, by have := HGX4.out.lo; omega, by have := HGX4.out.hi; omega, HGX4.out.kp.trans hkpz.out, HGX4.out.goes.trans hgoz.out, hltz.out⟩)
      have HTN5 := Lib.hid (hgoz.out.tb _ _ _ HTN4.out)
      have HTP5 := Lib.hid (hgoz.out.tb _ _ _ HTP.out)
      have HWB5 := Lib.hid (hgoz.out.tb _ _ _ HWB4.out)
      have HGO5 := Lib.hid (HGO4.out.trans hgoz.out)
      have HKO5 := Lib.hid (HKX.out.heap HKO4.out HKS.out)
      have e1 := HKX.out.cell HC1.out HPS.out
      have e3 := HKX.out.cell HC3.out HPS.out
      obtain ⟨s5, c5, -⟩ := HTN5.out.ldS (i := 0) (j := 0) (o := 0) (by decide) rfl (by decide)
      have z5 := HTN5.out.fz 0
      obtain ⟨hks6, hset6⟩ := HTN5.out.put (j := 0) (f := .s) (u := .string ps9s) rfl ⟨_, rfl, ps9z⟩
      have hkn6 : Kept (fun b => b ≠ nb) wx (wx.setCell ⟨nb, 0, none⟩ (.string ps9s)) := Kept.setCell _ _ _ (fun h => h rfl)
      obtain ⟨w6, hw6⟩ : ∃ z, z = wx.setCell ⟨nb, 0, none⟩ (.string ps9s) := ⟨_, rfl⟩
      rw [← hw6] at hks6 hset6 hkn6
      have HW6 := Lib.hid hw6
      have HKN6 := Lib.hid (show kb ≠ nb from fun e => by
        obtain ⟨x, h1, -⟩ := HTN5.out.ok
        rw [← e, HKO5.out] at h1
        injection h1 with h1
        injection h1 with _ h1
        exact absurd h1 (by decide))
      have HGX6 := Lib.hid (HGX5.out.go hσ hks6 hset6)
      have HTN6 := Lib.hid (hset6.tb _ _ _ HTN5.out)
      have HTP6 := Lib.hid (hset6.tb _ _ _ HTP5.out)
      have HWB6 := Lib.hid (hset6.tb _ _ _ HWB5.out)
      have HGO6 := Lib.hid (HGO5.out.trans hset6)
      have HKO6 := Lib.hid (hkn6.heap HKO5.out HKN6.out)
      have HC16 := Lib.hid (hkn6.cell e1 (Ne.symm HNN2.out))
      have HC36 := Lib.hid (hkn6.cell e3 (Ne.symm HNN2.out))
      clear hks6 hset6 hkn6 hw6 e1 e3 HGX5 HTN5 HTP5 HWB5 HGO5 HKO5 hexz hgoz hkpz hltz HGX4 HGO4 HTP HTN4 HWB4 HKO4 HC1 HC3 HKX
      go_upto_block 6 with fail
      clear c5 z5
      simp only [← HW6.out]
      go_cut [] (fun wy => GenX σ B N N' n (4000 + 2000 * k + 900) w0 wy mz ∧ Goes Θw B N' w6 N' wy ∧ wy.heap[kb]? = some (.cells ks0 9) ∧ wy.cell? ⟨pb, 3, none⟩ = some (.slice none 0 0))
      case first =>
        go_wp2_with fail
        go_loopw [] (fun wr => GenX σ B N N' n (4000 + 2000 * k + 900) w0 wr mz ∧ Goes Θw B N' w6 N' wr ∧ wr.heap[kb]? = some (.cells ks0 9) ∧ wr.cell? ⟨pb, 1, none⟩ = some (.slice (some ⟨nb, 0, none⟩) 1 1) ∧ wr.cell? ⟨pb, 3, none⟩ = some (.slice none 0 0)) (fun wr => badN wr nb)
        case atStart => exact ⟨HGX6.out, Goes.refl _ _ _ _, HKO6.out, HC16.out, HC36.out⟩
        case round =>
          obtain ⟨hgen, hgoes, hkb, hc1, hc3⟩ := hrel
          obtain ⟨wo, rfl⟩ : ∃ z : World, z = wr := ⟨_, rfl⟩
          have HGY := Lib.hid hgen
          have HGO7 := Lib.hid hgoes
          have HKO7 := Lib.hid hkb
          have HC17 := Lib.hid hc1
          have HC37 := Lib.hid hc3
          have HTN := Lib.hid (hgoes.tb _ _ _ HTN6.out)
          clear hgen hgoes hkb hc3
          obtain ⟨s, c0, hs⟩ := HTN.out.ldS (i := 0) (j := 0) (o := 0) (by decide) rfl (by decide)
          by_cases he : s = ⟨#[]⟩
          case pos =>
            subst he
            have HB1 := Lib.hid (show badN wo nb = 1 from badN_bad c0 (Or.inl rfl))
            obtain ⟨hks, hset⟩ := HTN.out.put (j := 0) (f := .s) (u := .string annB) rfl ⟨_, rfl, by decide⟩
            have hkn : Kept (fun b => b ≠ nb) wo (wo.setCell ⟨nb, 0, none⟩ (.string annB)) := Kept.setCell _ _ _ (fun h => h rfl)
            have HF := Lib.hid (show GenX σ B N N' n (4000 + 2000 * k + 900) w0 (wo.setCell ⟨nb, 0, none⟩ (.string annB)) mz ∧ Goes Θw B N' w6 N' (wo.setCell ⟨nb, 0, none⟩ (.string annB)) ∧ (wo.setCell ⟨nb, 0, none⟩ (.string annB)).heap[kb]? = some (.cells ks0 9) ∧ (wo.setCell ⟨nb, 0, none⟩ (.string annB)).cell? ⟨pb, 1, none⟩ = some (.slice (some ⟨nb, 0, none⟩) 1 1) ∧ (wo.setCell ⟨nb, 0, none⟩ (.string annB)).cell? ⟨pb, 3, none⟩ = some (.slice none 0 0) from ⟨HGY.out.go hσ hks hset, HGO7.out.trans hset, hkn.heap HKO7.out HKN6.out, hkn.cell HC17.out (Ne.symm HNN2.out), hkn.cell HC37.out (Ne.symm HNN2.out)⟩)
            have HM := Lib.hid (show badN (wo.setCell ⟨nb, 0, none⟩ (.string annB)) nb = 0 from badN_ann (World.cell?_setCell_same' _ _ _ (by rw [c0]; rfl)))
            have z0 := HTN.out.fz 0
            clear hks hset hkn
            go_wp2_with fail
            go_roundw
            case rel => exact HF.out
            case measure => exact (show badN (wo.setCell ⟨nb, 0, none⟩ (.string annB)) nb < badN wo nb from by rw [HM.out, HB1.out]; decide)
          have hem := isEmpty_ne he
          obtain ⟨mx, hmx⟩ := HG0.out.most
          have HSO := Lib.hid (simpleOf_any s mx wo (Nat.le_trans hs (by decide)) (HGY.out.kp.cell hmx ⟨by show (0 : Nat) < B; omega, by show (0 : Nat) ≠ σ.b; omega⟩))
          clear hmx
          go_wp2_with fail
          refine HSO.out.mono ?_
          rintro e w7 ⟨rfl, hk7⟩
          have HGZ := Lib.hid (HGY.out.alls hσ hk7)
          have HKZ := Lib.hid hk7
          clear HSO
          by_cases he2 : simB s = ⟨#[]⟩
          case pos =>
            have hem2 : (simB s).toList.isEmpty = true := by rw [he2, toList_nil rfl]; rfl
            have HB1 := Lib.hid (show badN wo nb = 1 from badN_bad c0 (Or.inr he2))
            have HTN7 := Lib.hid ((Goes.all (Θ := Θw) (N := N') hk7).tb _ _ _ HTN.out)
            have c7 := hk7.cell c0 trivial
            have d7 := hk7.cell hc1 trivial
            clear hk7 c0 hc1
            obtain ⟨hks, hset⟩ := HTN7.out.put (j := 0) (f := .s) (u := .string annB) rfl ⟨_, rfl, by decide⟩
            have hkn : Kept (fun b => b ≠ nb) w7 (w7.setCell ⟨nb, 0, none⟩ (.string annB)) := Kept.setCell _ _ _ (fun h => h rfl)
            have HF := Lib.hid (show GenX σ B N N' n (4000 + 2000 * k + 900) w0 (w7.setCell ⟨nb, 0, none⟩ (.string annB)) mz ∧ Goes Θw B N' w6 N' (w7.setCell ⟨nb, 0, none⟩ (.string annB)) ∧ (w7.setCell ⟨nb, 0, none⟩ (.string annB)).heap[kb]? = some (.cells ks0 9) ∧ (w7.setCell ⟨nb, 0, none⟩ (.string annB)).cell? ⟨pb, 1, none⟩ = some (.slice (some ⟨nb, 0, none⟩) 1 1) ∧ (w7.setCell ⟨nb, 0, none⟩ (.string annB)).cell? ⟨pb, 3, none⟩ = some (.slice none 0 0) from ⟨HGZ.out.go hσ hks hset, (HGO7.out.trans (Goes.all HKZ.out)).trans hset, hkn.heap (HKZ.out.heap HKO7.out trivial) HKN6.out, hkn.cell (HKZ.out.cell HC17.out trivial) (Ne.symm HNN2.out), hkn.cell (HKZ.out.cell HC37.out trivial) (Ne.symm HNN2.out)⟩)
            have HM := Lib.hid (show badN (w7.setCell ⟨nb, 0, none⟩ (.string annB)) nb = 0 from badN_ann (World.cell?_setCell_same' _ _ _ (by rw [c7]; rfl)))
            have z0 := HTN7.out.fz 0
            clear hks hset hkn
            go_wp2_with fail
            go_roundw
            case rel => exact HF.out
            case measure => exact (show badN (w7.setCell ⟨nb, 0, none⟩ (.string annB)) nb < badN wo nb from by rw [HM.out, HB1.out]; decide)
          have hem2 := isEmpty_ne he2
          go_wp2_with fail
          go_meet
          exact ⟨HGZ.out, HGO7.out.trans (Goes.all HKZ.out), HKZ.out.heap HKO7.out trivial, HKZ.out.cell HC37.out trivial⟩
      case rest =>
        obtain ⟨hgen, hgoes, hkb, hc3⟩ := hcut
        obtain ⟨w8, rfl⟩ : ∃ z : World, z = wc := ⟨_, rfl⟩
        have HTP7 := Lib.hid (hgoes.tb _ _ _ HTP6.out)
        have HWB7 := Lib.hid (hgoes.tb _ _ _ HWB6.out)
        have HGO7 := Lib.hid (HGO6.out.trans hgoes)
        have HGX7 := Lib.hid hgen
        have HKO7 := Lib.hid hkb
        have HC37 := Lib.hid hc3
        have hst := hgen.st
        have hhi := hgen.hi
        clear hgen hgoes hkb hc3 HTP6 HWB6 HGO6 HGX6 HKO6 HC16 HC36 HTN6
        go_wp2_with fail
        refine (flip_any σ mz 3 _ hst (by omega) (by omega) (by omega)).mono ?_
        rintro e w8 ⟨v, m8, rfl, ⟨b, rfl⟩, hA8, hB8, hs8, hb8⟩
        have HTP8 := Lib.hid ((Goes.but (Θ := Θw) (N := N') hb8 hσ).tb _ _ _ HTP7.out)
        have HWB8 := Lib.hid ((Goes.but (Θ := Θw) (N := N') hb8 hσ).tb _ _ _ HWB7.out)
        have HGO8 := Lib.hid (HGO7.out.trans (Goes.but hb8 hσ))
        have HGX8 := Lib.hid (HGX7.out.call hσ hb8 hs8 hA8 hB8)
        have HKO8 := Lib.hid (hb8.heap HKO7.out HKS.out)
        have HC8 := Lib.hid (hb8.cell HC37.out HPS.out)
        have HST := Lib.hid hs8
        have HLT := Lib.hid HGX8.out.lt
        have hhi8 := HGX8.out.hi
        have HKP := Lib.hid (show kb ≠ pb from fun e => by
          obtain ⟨x, h1, -⟩ := HTP8.out.ok
          rw [← e, HKO8.out] at h1
          injection h1 with h1
          injection h1 with _ h1
          exact absurd h1 (by decide))
        clear hst hs8 hb8 HTP7 HWB7 HGO7 HGX7 HKO7 HC37
        go_upto_if 120 with fail
        go_cut [] (fun wx => ∃ (Q : Nat → Nat) (m : Nat), Nb Q (4 + 4 * k + 1) 0 ∧ GenX σ B N Q n (4000 + 2000 * k + 1100) w0 wx m ∧ Goes Θw B N' w8 Q wx ∧ wx.heap[kb]? = some (.cells ks0 9) ∧ wx.cell? ⟨pb, 3, none⟩ = some (.slice none 0 0))
        case first =>
          cases b with
          | false =>
            go_wp2_with fail
            go_meet
            exact ⟨N', m8, HNB.out.mono (by omega) (Nat.le_refl _), HGX8.out.up (by omega), Goes.refl _ _ _ _, HKO8.out, HC8.out⟩
          | true =>
            have hloS : ∀ x, 8 ≤ (up N' 2) x := fun x => Nat.le_trans (HNB.out x).1 (up_le N' _ x)
            have hhiS : ∀ x, (up N' 2) x ≤ 1000 := fun x => by have := up_lt N' 2 x; have := HNB.out x; omega
            go_upto_region 27 with fail
            refine wp_region_ty 11 (by kernel_rfl) (by kernel_rfl) (RT Θw σ B N' (up N' 2) (fun w => w.heap[kb]? = some (.cells ks0 9) ∧ w.cell? ⟨pb, 3, none⟩ = some (.slice none 0 0)) w8 m8 9 1)
              (DL [QIs (.pointer (some ⟨pb, 1, none⟩)), PL Θw B N' (up N' 2) 2, QIs (.pointer (some ⟨σ.b, 0, none⟩)), PG Θw B (up N' 2) .s, QIs (.pointer (some ⟨σ.b, 0, none⟩)), PT Θw B (up N' 2) 9 3, PG Θw B (up N' 2) .i, PA Θw B (up N' 2) 2, PT Θw B (up N' 2) 2 1, PG Θw B (up N' 2) (.sl 2), QIs (.pointer (some ⟨pb, 1, none⟩))]) (fun w w' => Goes Θw B (up N' 2) w (up N' 2) w')
              (DL.keep (by simp only [List.forall_mem_cons, List.not_mem_nil, false_implies, implies_true, and_true]; exact ⟨QIs.stays' _, PL.stays _, QIs.stays' _, PG.stays _, QIs.stays' _, PT.stays _ _, PG.stays _, PA.stays _, PT.stays _ _, PG.stays _, QIs.stays' _⟩)) ?_ ?_ ?_
            · exact ⟨⟨m8, HST.out.keep (Kept.drew _ _), Nat.le_refl _, by omega⟩, Kept.drew _ _, HLT.out, by rw [if_neg (by decide)]; exact Goes.all (Kept.drew _ _), fun h => (by cases h), ⟨(Kept.drew (fun _ => True) _).heap HKO8.out trivial, (Kept.drew (fun _ => True) _).cell HC8.out trivial⟩⟩
            · intro i o ho hi kq L a' wx hkq hrt hL hdf hts hoth hld hdeps
              have hkz : kq < 11 := hkq
              have hz : i = 0 ∨ i = 1 ∨ i = 2 ∨ i = 3 ∨ i = 4 ∨ i = 5 ∨ i = 6 ∨ i = 7 ∨ i = 8 ∨ i = 9 ∨ i = 10 := by have : i < 11 := hi; omega
              rcases hz with rfl | rfl | rfl | rfl | rfl | rfl | rfl | rfl | rfl | rfl | rfl
              · obtain rfl := Option.some.inj ho
                have e : a'.tmps.getD 14 undef = .pointer (some ⟨pb, 0, none⟩) := tmp_of ((hoth 14 (by decide)).trans rfl)
                clear hoth hdeps hdf hts ho hld
                refine wp_via (fun K' hK => ?_)
                have HK := Lib.hid hK
                clear hK
                go_simp
                exact HK.out _ _ ⟨_, rfl, hrt.same (by decide), Goes.refl _ _ _ _, fun _ => rfl⟩
              · obtain rfl := Option.some.inj ho
                have e : a'.tmps.getD 121 undef = .pointer (some ⟨pb, 1, none⟩) := hdeps 0 (by decide) 121 rfl
                obtain ⟨a0, n0, c0', c0, z0, g0⟩ := ((hrt.old (hrt.notyet hL)).tb _ _ _ HTP8.out).ldL (i := 0) (j := 1) (o := 1) (by decide) rfl (by decide)
                clear hoth hdeps hdf hts ho hld
                refine wp_via (fun K' hK => ?_)
                have HK := Lib.hid hK
                clear hK
                go_simp
                exact HK.out _ _ ⟨_, rfl, hrt.same (by decide), Goes.refl _ _ _ _, fun _ => ⟨_, _, _, rfl, z0, Gd.goes g0 (Goes.up (fun x => up_le N' 2 x))⟩⟩
              · obtain rfl := Option.some.inj ho
                have e : a'.tmps.getD 0 undef = .pointer (some ⟨σ.b, 0, none⟩) := tmp_of ((hoth 0 (by decide)).trans rfl)
                clear hoth hdeps hdf hts ho hld
                refine wp_via (fun K' hK => ?_)
                have HK := Lib.hid hK
                clear hK
                go_simp
                exact HK.out _ _ ⟨_, rfl, hrt.same (by decide), Goes.refl _ _ _ _, fun _ => rfl⟩
              · obtain rfl := Option.some.inj ho
                have e0 : a'.tmps.getD 123 undef = .pointer (some ⟨σ.b, 0, none⟩) := hdeps 2 (by decide) 123 rfl
                obtain ⟨m, hst, hm1, hm2⟩ := hrt.st
                clear hoth hdeps hdf hts ho hld
                refine wp_via (fun K' hK => ?_)
                have HK := Lib.hid hK
                clear hK
                go_simp
                refine (someName_any σ m wx hst (by omega)).mono ?_
                rintro e w2 ⟨v, m2, rfl, ⟨r, rfl, hr⟩, hA, hB, hs2, hb2⟩
                exact HK.out _ _ ⟨_, rfl, hrt.call (by decide) hm1 hm2 hA hB (by decide) hs2 hb2 hσ (⟨hb2.heap hrt.ex.1 HKS.out, hb2.cell hrt.ex.2 HPS.out⟩), Goes.but hb2 hσ, fun _ => ⟨r, rfl, hr⟩⟩
              · obtain rfl := Option.some.inj ho
                have e : a'.tmps.getD 0 undef = .pointer (some ⟨σ.b, 0, none⟩) := tmp_of ((hoth 0 (by decide)).trans rfl)
                clear hoth hdeps hdf hts ho hld
                refine wp_via (fun K' hK => ?_)
                have HK := Lib.hid hK
                clear hK
                go_simp
                exact HK.out _ _ ⟨_, rfl, hrt.same (by decide), Goes.refl _ _ _ _, fun _ => rfl⟩
              · obtain rfl := Option.some.inj ho
                clear hoth hdeps hdf hts ho hld
                refine wp_via (fun K' hK => ?_)
                have HK := Lib.hid hK
                clear hK
                go_simp
                exact HK.out _ _ ⟨_, rfl, hrt.all (by decide) (Kept.alloc _ _ _) hσ (⟨(Kept.alloc (fun _ => True) _ _).heap hrt.ex.1 trivial, (Kept.alloc (fun _ => True) _ _).cell hrt.ex.2 trivial⟩), Goes.all (Kept.alloc _ _ _), fun _ => ⟨_, rfl, TB.litN (kd := 9) (vs := [.int .i64 1, .int .i64 50, .int .i64 200]) hrt.lt rfl rfl ⟨⟨_, rfl, by decide, by decide⟩, ⟨_, rfl, by decide, by decide⟩, ⟨_, rfl, by decide, by decide⟩, trivial⟩⟩⟩
              · obtain rfl := Option.some.inj ho
                have e0 : a'.tmps.getD 125 undef = .pointer (some ⟨σ.b, 0, none⟩) := hdeps 4 (by decide) 125 rfl
                obtain ⟨e1b, e1, e1t⟩ : ∃ g, a'.tmps.getD 126 undef = .slice (some ⟨g, 0, none⟩) 3 3 ∧ TB Θw B (up N' 2) wx g 9 3 := hdeps 5 (by decide) 126 rfl
                obtain ⟨m, hst, hm1, hm2⟩ := hrt.st
                clear hoth hdeps hdf hts ho hld
                refine wp_via (fun K' hK => ?_)
                have HK := Lib.hid hK
                clear hK
                go_simp
                refine (pickI_any hst (by omega) hσ e1t (by decide) (by decide)).mono ?_
                rintro e w2 ⟨v, m2, rfl, ⟨r, rfl, hr⟩, hA, hB, hs2, hb2⟩
                exact HK.out _ _ ⟨_, rfl, hrt.call (by decide) hm1 hm2 hA hB (by decide) hs2 hb2 hσ (⟨hb2.heap hrt.ex.1 HKS.out, hb2.cell hrt.ex.2 HPS.out⟩), Goes.but hb2 hσ, fun _ => ⟨r, rfl, hr⟩⟩
              · obtain rfl := Option.some.inj ho
                obtain ⟨e0s, e0, e0z⟩ : ∃ s : ByteArray, a'.tmps.getD 124 undef = .string s ∧ s.size ≤ 200 := hdeps 3 (by decide) 124 rfl
                have e0q : a'.tmps[124]?.getD undef = .string e0s := by rw [← Array.getD_eq_getD_getElem?]; exact e0
                obtain ⟨e1i, e1, e1l, e1h⟩ : ∃ z : Int, a'.tmps.getD 127 undef = .int .i64 z ∧ -2000000000000 ≤ z ∧ z ≤ 2000000000000 := hdeps 6 (by decide) 127 rfl
                have e1q : a'.tmps[127]?.getD undef = .int .i64 e1i := by rw [← Array.getD_eq_getD_getElem?]; exact e1
                clear hoth hdeps hdf hts ho hld
                refine wp_via (fun K' hK => ?_)
                have HK := Lib.hid hK
                clear hK
                go_simp
                exact HK.out _ _ ⟨_, rfl, hrt.same (by decide), Goes.refl _ _ _ _, fun _ => ⟨[.string e0s, .int .i64 e1i], rfl, ⟨_, rfl, e0z⟩, ⟨_, rfl, e1l, e1h⟩, trivial⟩⟩
              · obtain rfl := Option.some.inj ho
                obtain ⟨e0v, e0, e0g⟩ : ∃ vs : List Value, a'.tmps.getD 128 undef = .agg vs.toArray ∧ GdL Θw B (up N' 2) wx (Θw.fds 2) vs := hdeps 7 (by decide) 128 rfl
                obtain ⟨e0x0, e0x1, rfl⟩ := inv2 e0g
                replace e0 : a'.tmps.getD 128 undef = .agg #[.string e0x0, .int .i64 e0x1] := e0
                have e0q : a'.tmps[128]?.getD undef = .agg #[.string e0x0, .int .i64 e0x1] := by rw [← Array.getD_eq_getD_getElem?]; exact e0
                clear hoth hdeps hdf hts ho hld
                refine wp_via (fun K' hK => ?_)
                have HK := Lib.hid hK
                clear hK
                go_simp
                exact HK.out _ _ ⟨_, rfl, hrt.all (by decide) (Kept.alloc _ _ _) hσ (⟨(Kept.alloc (fun _ => True) _ _).heap hrt.ex.1 trivial, (Kept.alloc (fun _ => True) _ _).cell hrt.ex.2 trivial⟩), Goes.all (Kept.alloc _ _ _), fun _ => ⟨_, rfl, TB.lit1 hrt.lt (by decide) e0g⟩⟩
              · obtain rfl := Option.some.inj ho
                obtain ⟨ea, en, ec, e, el, eg⟩ : ∃ a n c, a'.tmps.getD 122 undef = .slice a n c ∧ n ≤ N' 2 ∧ Gd Θw B (up N' 2) wx (.sl 2) (.slice a n c) := hdeps 1 (by decide) 122 rfl
                obtain ⟨xb, x, xt⟩ : ∃ g, a'.tmps.getD 129 undef = .slice (some ⟨g, 0, none⟩) 1 1 ∧ TB Θw B (up N' 2) wx g 2 1 := hdeps 8 (by decide) 129 rfl
                have hlc : L 1 = true := hld 1 (by decide)
                clear hoth hdeps hdf hts ho hld
                refine wp_via (fun K' hK => ?_)
                have HK := Lib.hid hK
                clear hK
                refine op_append_tt wOk2 (wSep 2 (by decide)) wx _ _ rfl (ea) en ec e eg _ 1 1 x xt (by decide) (by decide) (up N' 2) (fun _ => Nat.le_refl _) (by have := el; have := up_at N' 2; omega) (by have := hhiS 2; omega) hrt.lt ?_
                intro p' c' w' hA
                exact HK.out _ _ ⟨_, rfl, hrt.app hlc (fun x => up_le N' 2 x) eg hA hσ (⟨appHeap eg hA hrt.ex.1 (by decide), appCell eg hA ((hrt.goes (fun x => up_le N' 2 x)).tb _ _ _ HTP8.out) (by decide) hrt.ex.2⟩), hA.goes, fun _ => hA.gd⟩
              · obtain rfl := Option.some.inj ho
                have e : a'.tmps.getD 14 undef = .pointer (some ⟨pb, 0, none⟩) := tmp_of ((hoth 14 (by decide)).trans rfl)
                clear hoth hdeps hdf hts ho hld
                refine wp_via (fun K' hK => ?_)
                have HK := Lib.hid hK
                clear hK
                go_simp
                exact HK.out _ _ ⟨_, rfl, hrt.same (by decide), Goes.refl _ _ _ _, fun _ => rfl⟩
            · intro L wx f hrt hdl
              obtain ⟨pvv, pv', pvg'⟩ : ∃ v, f 130 = v ∧ Gd Θw B (up N' 2) wx (.sl 2) v := ⟨_, rfl, hdl 9 130 (by decide) rfl⟩
              obtain ⟨pva, pvn, pvc, rfl, -⟩ := pvg'.slice
              have pv := pv'
              have pvg := Lib.hid pvg'
              clear pv' pvg'
              have pp9 : f 131 = .pointer (some ⟨pb, 1, none⟩) := hdl 10 131 (by decide) rfl
              rw [show dsts _ _ = [121, 122, 123, 124, 125, 126, 127, 128, 129, 130, 131] from by kernel_rfl]
              simp only [List.map_cons, List.map_nil, puts, Act.put, pv, pp9]
              generalize f 121 = f121
              generalize f 122 = f122
              generalize f 123 = f123
              generalize f 124 = f124
              generalize f 125 = f125
              generalize f 126 = f126
              generalize f 127 = f127
              generalize f 128 = f128
              generalize f 129 = f129
              simp only [List.setIfInBounds_toArray, List.set_cons_zero, List.set_cons_succ]
              clear hdl pv pp9 f
              obtain ⟨mz', hstz, hmz1, hmz2⟩ := hrt.st
              have hgoz := Lib.hid (hrt.goes (fun x => up_le N' 2 x))
              have hkpz := Lib.hid hrt.kp
              have hltz := Lib.hid hrt.lt
              have hstz := Lib.hid hstz
              have hexz := Lib.hid hrt.ex
              clear hrt
              have HT := Lib.hid (hgoz.out.tb _ _ _ HTP8.out)
              obtain ⟨a3, n3, c3, d3, -, -⟩ := HT.out.ldL (i := 0) (j := 1) (o := 1) (by decide) rfl (by decide)
              have z3 := HT.out.fz 1
              obtain ⟨hks, hset⟩ := HT.out.put (j := 1) (f := .sl 2) (u := .slice pva pvn pvc) rfl pvg.out
              have hkn : Kept (fun b => b ≠ pb) wx (wx.setCell ⟨pb, 1, none⟩ (.slice pva pvn pvc)) := Kept.setCell _ _ _ (fun h => h rfl)
              have HGX9 := Lib.hid (show GenX σ B N (up N' 2) n (4000 + 2000 * k + 1100) w0 wx mz' from ⟨hstz.out, by have := HGX8.out.lo; omega, by have := HGX8.out.hi; omega, HGX8.out.kp.trans hkpz.out, HGX8.out.goes.trans hgoz.out, hltz.out⟩)
              have HF := Lib.hid (HGX9.out.go hσ hks hset)
              have HS := Lib.hid (hgoz.out.trans hset)
              have HK9 := Lib.hid (hkn.heap hexz.out.1 HKP.out)
              have HC9 := Lib.hid (show (wx.setCell ⟨pb, 1, none⟩ (.slice pva pvn pvc)).cell? ⟨pb, 3, none⟩ = some (.slice none 0 0) from by rw [World.cell?_setCell_other _ _ _ _ (by intro h; injection h with _ h; exact absurd h (by decide))]; exact hexz.out.2)
              have HUP := Lib.hid (show Nb (up N' 2) (4 + 4 * k + 1) 0 from HNB.out.up (by decide) (by decide))
              clear hks hset hkn
              go_wp2_with fail
              go_meet
              exact ⟨up N' 2, mz', HUP.out, HF.out, HS.out, HK9.out, HC9.out⟩
        case rest =>
          obtain ⟨Q9, m9, hnb, hgen, hgoes, hkb, hc3⟩ := hcut
          obtain ⟨w9, rfl⟩ : ∃ z : World, z = wc := ⟨_, rfl⟩
          have HW9 := Lib.hid (show PWay σ B N N1 n (4000 + 2000 * k + 1100) w0 wC kb pb (4 + 4 * k + 1) Q9 w9 m9 from ⟨hnb, hgen, HGO8.out.trans hgoes, hkb, hgoes.tb _ _ _ HTP8.out, none, 0, 0, hc3, fun _ h => nomatch h⟩)
          clear hnb hgen hgoes hkb hc3 HTP8 HWB8 HGO8 HGX8 HKO8 HC8 HST HLT hhi8
          have hst := HW9.out.gen.st
          have hhi := HW9.out.gen.hi
          go_wp2_with fail
          refine (flip_any σ m9 3 _ hst (by omega) (by omega) (by omega)).mono ?_
          rintro e wa ⟨v, ma, rfl, ⟨b, rfl⟩, hA8, hB8, hs8, hb8⟩
          have HWa := Lib.hid (HW9.out.flip hσ HKS.out hb8 hs8 hA8 hB8)
          clear hst hhi hs8 hb8 HW9
          go_upto_if 133 with fail
          go_cut [] (fun wx => ∃ (Q : Nat → Nat) (m : Nat), PWay σ B N N1 n (4000 + 2000 * k + 1110) w0 wC kb pb (4 + 4 * k + 2) Q wx m)
          case first =>
            cases b with
            | false =>
              go_wp2_with fail
              go_meet
              exact ⟨Q9, ma, HWa.out.up (by omega) (by omega)⟩
            | true =>
              obtain ⟨a3, l3, q3, d3, hl3, hg3, hn3⟩ := HWa.out.mails
              obtain ⟨t, hrun, htz⟩ := cat_lit ks ⟨#[64, 120]⟩ 3 2 hks (by decide) (by decide)
              have HG3 := Lib.hid hg3
              have HN3 := Lib.hid hn3
              have HTZ := Lib.hid (show t.size ≤ 200 from Nat.le_trans htz (by decide))
              have HRM := Lib.hid (show l3 + 1 ≤ up Q9 0 0 ∧ up Q9 0 0 ≤ 1000000000 from by rw [up_at]; have := HWa.out.nb 0; omega)
              clear hl3 hg3 hn3 htz
              go_wp2_with (at_builtin; go_loud (refine wp_append_tb wOk0 (wSep 0 (by decide)) _ rfl _ _ rfl B Q9 a3 l3 q3 rfl (HG3.out.goes (Goes.all (Kept.alloc _ _ _))) _ 1 [.string t] _ _ rfl (heap_alloc_new wa _) ⟨⟨_, rfl, HTZ.out⟩, trivial⟩ (up Q9 0) (fun x => up_le Q9 0 x) HRM.out.1 HRM.out.2 (Nat.le_trans HWa.out.gen.lt (Kept.alloc (fun _ => True) wa _).size) ?_))
              intro p9 c9 wd hA
              have HF := Lib.hid (HWa.out.mail hσ (Kept.alloc _ _ _) HG3.out HN3.out hA)
              have htd := ((Goes.all (Θ := Θw) (N := Q9) (Kept.alloc (fun _ => True) wa (.cells #[.string t] 9))).trans hA.goes).tb _ _ _ HWa.out.tp
              obtain ⟨u0, hu0⟩ := htd.cellT (i := 0) (j := 3) (o := 3) (by decide) rfl (by decide)
              have z0 := htd.fz 3
              clear htd hA d3 hrun
              go_wp2_with fail
              go_meet
              exact ⟨up Q9 0, ma, HF.out.up (by omega) (by omega)⟩
          case rest =>
          obtain ⟨Qb, mb, hwb⟩ := hcut
          obtain ⟨wb', rfl⟩ : ∃ z : World, z = wc := ⟨_, rfl⟩
          have HWb := Lib.hid hwb
          clear hwb HWa
          have hst := HWb.out.gen.st
          have hhi := HWb.out.gen.hi
          go_wp2_with fail
          refine (flip_any σ mb 4 _ hst (by omega) (by omega) (by omega)).mono ?_
          rintro e we ⟨v, me, rfl, ⟨b', rfl⟩, hA8, hB8, hs8, hb8⟩
          have HWe := Lib.hid (HWb.out.flip hσ HKS.out hb8 hs8 hA8 hB8)
          clear hst hhi hs8 hb8 HWb
          go_upto_if 142 with fail
          go_cut [] (fun wx => ∃ (Q : Nat → Nat) (m : Nat), PWay σ B N N1 n (4000 + 2000 * k + 1120) w0 wC kb pb (4 + 4 * k + 3) Q wx m)
          case first =>
            cases b' with
            | false =>
              go_wp2_with fail
              go_meet
              exact ⟨Qb, me, HWe.out.up (by omega) (by omega)⟩
            | true =>
              obtain ⟨a3, l3, q3, d3, hl3, hg3, hn3⟩ := HWe.out.mails
              have HG3 := Lib.hid hg3
              have HN3 := Lib.hid hn3
              have HRM := Lib.hid (show l3 + 1 ≤ up Qb 0 0 ∧ up Qb 0 0 ≤ 1000000000 from by rw [up_at]; have := HWe.out.nb 0; omega)
              clear hl3 hg3 hn3
              go_wp2_with (at_builtin; go_loud (refine wp_append_tb wOk0 (wSep 0 (by decide)) _ rfl _ _ rfl B Qb a3 l3 q3 rfl (HG3.out.goes (Goes.all (Kept.alloc _ _ _))) _ 1 [.string ⟨#[122, 64, 115, 104, 97, 114, 101, 100]⟩] _ _ rfl (heap_alloc_new we _) ⟨⟨_, rfl, by decide⟩, trivial⟩ (up Qb 0) (fun x => up_le Qb 0 x) HRM.out.1 HRM.out.2 (Nat.le_trans HWe.out.gen.lt (Kept.alloc (fun _ => True) we _).size) ?_))
              intro p9 c9 wd hA
              have HF := Lib.hid (HWe.out.mail hσ (Kept.alloc _ _ _) HG3.out HN3.out hA)
              have htd := ((Goes.all (Θ := Θw) (N := Qb) (Kept.alloc (fun _ => True) we (.cells #[.string ⟨#[122, 64, 115, 104, 97, 114, 101, 100]⟩] 9))).trans hA.goes).tb _ _ _ HWe.out.tp
              obtain ⟨u0, hu0⟩ := htd.cellT (i := 0) (j := 3) (o := 3) (by decide) rfl (by decide)
              have z0 := htd.fz 3
              clear htd hA d3
              go_wp2_with fail
              go_meet
              exact ⟨up Qb 0, me, HF.out.up (by omega) (by omega)⟩
          case rest =>
          obtain ⟨Qf, mf, hwf⟩ := hcut
          obtain ⟨wf, rfl⟩ : ∃ z : World, z = wc := ⟨_, rfl⟩
          have HWf := Lib.hid hwf
          clear hwf HWe
          have hst := HWf.out.gen.st
          have hhi := HWf.out.gen.hi
          have q3 : (kn : Int) ≤ 7 := by omega
          go_wp2_with fail
          refine (next_any σ mf (kn : Int) _ hst (by omega) (by omega) (by omega)).mono ?_
          rintro e wg ⟨v, mg, rfl, ⟨r, rfl, hr1, hr2⟩, hA8, hB8, hs8, hb8⟩
          obtain ⟨ri, rfl⟩ := Int.eq_ofNat_of_zero_le hr1
          have HWg := Lib.hid (HWf.out.flip hσ HKS.out hb8 hs8 hA8 hB8)
          clear hst hhi hs8 hb8 HWf
          obtain ⟨os, hos1, hos⟩ := keysAt (show ri < 7 by omega)
          have c0 := cell_at (i := ri) HWg.out.keys hos1
          have q4 : (ri : Int) < 7 := by omega
          have hst := HWg.out.gen.st
          have hhi := HWg.out.gen.hi
          go_upto_region 33 with fail
          clear c0
          go_cut [161] (fun t wx => ∃ b m, t = .bool b ∧ PWay σ B N N1 n (4000 + 2000 * k + 1150) w0 wC kb pb (4 + 4 * k + 3) Qf wx m)
          case first =>
            by_cases hsame : os = ks
            case pos =>
              have hd9 : (os.toList == ks.toList) = true := by rw [hsame]; simp
              clear hsame
              go_wp2_with fail
              go_meet
              exact ⟨false, mg, rfl, HWg.out.up (by omega) (Nat.le_refl _)⟩
            have hd9 : (os.toList == ks.toList) = false := by rw [beq_eq_false_iff_ne]; exact fun e => hsame (bytes_ext e)
            clear hsame
            go_wp2_with fail
            refine (flip_any σ mg 3 _ hst (by omega) (by omega) (by omega)).mono ?_
            rintro e wh ⟨v, mh, rfl, ⟨b2, rfl⟩, hA9, hB9, hs9, hb9⟩
            have HWh := Lib.hid (HWg.out.flip hσ HKS.out hb9 hs9 hA9 hB9)
            clear hst hhi hs9 hb9 HWg
            go_wp2_with fail
            go_meet
            exact ⟨b2, mh, rfl, HWh.out.up (by omega) (Nat.le_refl _)⟩
          case rest =>
          obtain ⟨b2, mh, rfl, hwh⟩ := hcut
          obtain ⟨wh, rfl⟩ : ∃ z : World, z = wc := ⟨_, rfl⟩
          have HWh := Lib.hid hwh
          clear hwh HWg hst hhi
          go_upto_if 161 with fail
          go_cut [] (fun wx => ∃ m, PWay σ B N N1 n (4000 + 2000 * k + 1150) w0 wC kb pb (4 + 4 * k + 3) Qf wx m)
          case first =>
            cases b2 with
            | false =>
              go_wp2_with fail
              go_meet
              exact ⟨mh, HWh.out⟩
            | true =>
              have hkl : All wh (wh.alloc (.cells #[.string os] 9)) := Kept.alloc _ _ _
              have htl : TB Θw B Qf (wh.alloc (.cells #[.string os] 9)) wh.heap.size 0 1 := TB.litN (Θ := Θw) (kd := 0) (f := .s) (vs := [.string os]) HWh.out.gen.lt rfl rfl ⟨⟨_, rfl, Nat.le_trans hos (by decide)⟩, trivial⟩
              obtain ⟨wi, hwi⟩ : ∃ z, z = wh.alloc (.cells #[.string os] 9) := ⟨_, rfl⟩
              obtain ⟨ob, hob⟩ : ∃ z, z = wh.heap.size := ⟨_, rfl⟩
              rw [← hwi] at hkl htl
              rw [← hob] at htl
              have HWI := Lib.hid hwi
              have HOB := Lib.hid hob
              have HWi := Lib.hid (HWh.out.alls hσ hkl)
              have hgd : Gd Θw B Qf wi (.sl 0) (.slice (some ⟨ob, 0, none⟩) 1 1) := htl.gd (by have := HWh.out.nb 0; omega)
              have HF := Lib.hid (HWi.out.put hσ (j := 4) (f := .sl 0) (u := .slice (some ⟨ob, 0, none⟩) 1 1) rfl hgd (by decide))
              obtain ⟨u0, hu0⟩ := HWi.out.tp.cellT (i := 0) (j := 4) (o := 4) (by decide) rfl (by decide)
              have z0 := HWi.out.tp.fz 4
              rw [HWI.out] at hu0 z0
              clear hkl htl hwi hob hgd
              go_wp2_with fail
              go_meet
              simp only [← HOB.out, ← HWI.out]
              exact ⟨mh, HF.out⟩
          case rest =>
          obtain ⟨mj, hwj⟩ := hcut
          obtain ⟨wj, rfl⟩ : ∃ z : World, z = wc := ⟨_, rfl⟩
          have HWj := Lib.hid hwj
          clear hwj HWh
          have HGL := Lib.hid (HWj.out.gen.glob (by omega) hσ HG0.out)
          have HWBj := Lib.hid (HWj.out.go.tb _ _ _ HWBC.out)
          have HQ := Lib.hid (show ∀ x, Qf x ≤ 1000 from fun x => by have := HWj.out.nb x; omega)
          obtain ⟨u0, un, uc, f0, hun, hug⟩ := HWBj.out.ldL (i := 0) (j := 0) (o := 0) (by decide) rfl (by decide)
          obtain ⟨s0, e0, hs0⟩ := HWj.out.tp.ldS (i := 0) (j := 0) (o := 0) (by decide) rfl (by decide)
          obtain ⟨v1, n1, c1, e1, -, hg1⟩ := HWj.out.tp.ldL (i := 0) (j := 1) (o := 1) (by decide) rfl (by decide)
          obtain ⟨v2, n2, c2, e2, -, hg2⟩ := HWj.out.tp.ldL (i := 0) (j := 2) (o := 2) (by decide) rfl (by decide)
          obtain ⟨v3, n3, c3, e3, -, hg3⟩ := HWj.out.tp.ldL (i := 0) (j := 3) (o := 3) (by decide) rfl (by decide)
          have hkl : All wj (wj.alloc (.cells #[.string s0, .slice v1 n1 c1, .slice v2 n2 c2, .slice v3 n3 c3, .slice none 0 0] 97)) := Kept.alloc _ _ _
          have htl : TB Θw B Qf (wj.alloc (.cells #[.string s0, .slice v1 n1 c1, .slice v2 n2 c2, .slice v3 n3 c3, .slice none 0 0] 97)) wj.heap.size 5 1 := TB.lit1 (Θ := Θw) (kd := 5) (vs := [.string s0, .slice v1 n1 c1, .slice v2 n2 c2, .slice v3 n3 c3, .slice none 0 0]) HWj.out.gen.lt (by decide) ⟨⟨_, rfl, hs0⟩, hg1, hg2, hg3, Or.inl ⟨_, rfl⟩, trivial⟩
          obtain ⟨wk, hwk⟩ : ∃ z, z = wj.alloc (.cells #[.string s0, .slice v1 n1 c1, .slice v2 n2 c2, .slice v3 n3 c3, .slice none 0 0] 97) := ⟨_, rfl⟩
          obtain ⟨xb, hxb⟩ : ∃ z, z = wj.heap.size := ⟨_, rfl⟩
          rw [← hwk] at hkl htl
          rw [← hxb] at htl
          have HWK := Lib.hid hwk
          have HXB := Lib.hid hxb
          have HWk := Lib.hid (HWj.out.alls hσ hkl)
          obtain ⟨wz, hwf⟩ := wldFault_free (HGL.out.keep hkl) (hug.goes (Goes.all hkl)) (htl.gd (by have := HWj.out.nb 5; omega)) (Or.inl ⟨_, rfl⟩ : Gd Θw B Qf wk (.sl 6) (.slice none 0 0)) (Or.inl ⟨_, rfl⟩ : Gd Θw B Qf wk (.sl 4) (.slice none 0 0)) HQ.out
          have HWF := Lib.hid hwf
          clear hkl htl hwk hxb hwf hug hun hs0 hg1 hg2 hg3 HGL
          obtain ⟨bz, hbz⟩ : ∃ b : Bool, (wz != 0) = b := ⟨_, rfl⟩
          go_wp2_with fail
          simp only [← HXB.out, ← HWK.out]
          refine HWF.out.mono ?_
          rintro e wl ⟨rfl, hwl⟩
          have HWl := Lib.hid (HWk.out.alls hσ hwl)
          clear hwl HWF e0 e1 e2 e3 f0
          go_upto_if 179 with fail
          clear hbz
          go_cut [] (fun wx => PWay σ B N N1 n (4000 + 2000 * k + 1150) w0 wC kb pb (4 + 4 * k + 3) Qf wx mj)
          case first =>
            cases bz with
            | false =>
              go_wp2_with fail
              go_meet
              exact HWl.out
            | true =>
              have hkl : All wl (wl.alloc (.cells #[.string ⟨#[67, 105, 100, 32, 77, 111, 101]⟩, .int .i64 0] 99)) := Kept.alloc _ _ _
              have htl : TB Θw B Qf (wl.alloc (.cells #[.string ⟨#[67, 105, 100, 32, 77, 111, 101]⟩, .int .i64 0] 99)) wl.heap.size 2 1 := TB.lit1 (Θ := Θw) (kd := 2) (vs := [.string ⟨#[67, 105, 100, 32, 77, 111, 101]⟩, .int .i64 0]) HWl.out.gen.lt (by decide) ⟨⟨_, rfl, by decide⟩, ⟨_, rfl, by decide, by decide⟩, trivial⟩
              obtain ⟨wm, hwm⟩ : ∃ z, z = wl.alloc (.cells #[.string ⟨#[67, 105, 100, 32, 77, 111, 101]⟩, .int .i64 0] 99) := ⟨_, rfl⟩
              obtain ⟨yb, hyb⟩ : ∃ z, z = wl.heap.size := ⟨_, rfl⟩
              rw [← hwm] at hkl htl
              rw [← hyb] at htl
              have HWM := Lib.hid hwm
              have HYB := Lib.hid hyb
              have HWm := Lib.hid (HWl.out.alls hσ hkl)
              have hgd : Gd Θw B Qf wm (.sl 2) (.slice (some ⟨yb, 0, none⟩) 1 1) := htl.gd (by have := HWl.out.nb 2; omega)
              have HF := Lib.hid (HWm.out.put hσ (j := 1) (f := .sl 2) (u := .slice (some ⟨yb, 0, none⟩) 1 1) rfl hgd (by decide))
              obtain ⟨u9, hu9⟩ := HWm.out.tp.cellT (i := 0) (j := 1) (o := 1) (by decide) rfl (by decide)
              have z9 := HWm.out.tp.fz 1
              rw [HWM.out] at hu9 z9
              clear hkl htl hwm hyb hgd
              go_wp2_with fail
              go_meet
              simp only [← HYB.out, ← HWM.out]
              exact HF.out
          case rest =>
          have hwn := hcut
          obtain ⟨wn, rfl⟩ : ∃ z : World, z = wc := ⟨_, rfl⟩
          have HWn := Lib.hid hwn
          clear hwn hcut HWk HXB HWK HWj HWBj HWl
          have HWBn := Lib.hid (HWn.out.go.tb _ _ _ HWBC.out)
          obtain ⟨u1, um, ud, f1, hum, hug⟩ := HWBn.out.ldL (i := 0) (j := 1) (o := 1) (by decide) rfl (by decide)
          obtain ⟨s0, e0, hs0⟩ := HWn.out.tp.ldS (i := 0) (j := 0) (o := 0) (by decide) rfl (by decide)
          obtain ⟨v1, n1, c1, e1, -, hg1⟩ := HWn.out.tp.ldL (i := 0) (j := 1) (o := 1) (by decide) rfl (by decide)
          obtain ⟨v2, n2, c2, e2, -, hg2⟩ := HWn.out.tp.ldL (i := 0) (j := 2) (o := 2) (by decide) rfl (by decide)
          obtain ⟨v3, n3, c3, e3, -, hg3⟩ := HWn.out.tp.ldL (i := 0) (j := 3) (o := 3) (by decide) rfl (by decide)
          obtain ⟨v4, n4, c4, e4, -, hg4⟩ := HWn.out.tp.ldL (i := 0) (j := 4) (o := 4) (by decide) rfl (by decide)
          have HUG := Lib.hid hug
          have HVL := Lib.hid (show GdL Θw B Qf wn (Θw.fds 5) [.string s0, .slice v1 n1 c1, .slice v2 n2 c2, .slice v3 n3 c3, .slice v4 n4 c4] from ⟨⟨_, rfl, hs0⟩, hg1, hg2, hg3, hg4, trivial⟩)
          have HUP := Lib.hid (show Nb (up Qf 5) (4 + 4 * k + 3 + 1) 0 from HWn.out.nb.up (by decide) (by decide))
          have HRM := Lib.hid (show um + 1 ≤ up Qf 5 5 ∧ up Qf 5 5 ≤ 1000000000 from by rw [up_at]; have := HWn.out.nb 5; omega)
          clear hug hum hs0 hg1 hg2 hg3 hg4
          go_wp2_with (at_builtin; go_loud (refine wp_append_tb wOk5 (wSep 5 (by decide)) _ rfl _ _ rfl B Qf u1 um ud rfl (HUG.out.goes (Goes.all (Kept.alloc _ _ _))) _ 1 [.string s0, .slice v1 n1 c1, .slice v2 n2 c2, .slice v3 n3 c3, .slice v4 n4 c4] _ _ rfl (heap_alloc_new wn _) (HVL.out.goes (Goes.all (Kept.alloc _ _ _))) (up Qf 5) (fun x => up_le Qf 5 x) HRM.out.1 HRM.out.2 (Nat.le_trans HWn.out.gen.lt (Kept.alloc (fun _ => True) wn _).size) ?_))
          intro p9 c9 wo9 hA
          have hal : All wn (wn.alloc (.cells #[.string s0, .slice v1 n1 c1, .slice v2 n2 c2, .slice v3 n3 c3, .slice v4 n4 c4] 97)) := Kept.alloc _ _ _
          have hg89 : Goes Θw B Qf wn (up Qf 5) wo9 := (Goes.all hal).trans hA.goes
          have hk89 : Kept (fun x => x < B) wn wo9 := (hal.mono (fun _ _ => trivial)).trans2 (hA.low (HUG.out.goes (Goes.all hal))) (fun _ _ hx => hx)
          have hkb9 := appHeap (HUG.out.goes (Goes.all hal)) hA (hal.heap HWn.out.keys trivial) (by decide)
          have HWB9 := Lib.hid (hg89.tb _ _ _ HWBn.out)
          obtain ⟨a9, n9, q9, d9, -, -⟩ := HWB9.out.ldL (i := 0) (j := 1) (o := 1) (by decide) rfl (by decide)
          have z9 := HWB9.out.fz 1
          obtain ⟨hks9, hset9⟩ := HWB9.out.put (j := 1) (f := .sl 5) (u := .slice p9 (um + 1) c9) rfl hA.gd
          have HF := Lib.hid ((HWn.out.gen.go hσ hk89 hg89).go hσ hks9 hset9)
          have HS := Lib.hid ((HWn.out.go.trans hg89).trans hset9)
          have hap : kb ≠ wb := fun e => by
            obtain ⟨x, h1, -⟩ := HWB9.out.ok
            rw [← e, hkb9] at h1
            injection h1 with h1
            injection h1 with _ h1
            exact absurd h1 (by decide)
          have HKB9 := Lib.hid ((show Kept (fun b => b ≠ wb) wo9 (wo9.setCell ⟨wb, 1, none⟩ (.slice p9 (um + 1) c9)) from Kept.setCell _ _ _ (fun h => h rfl)).heap hkb9 hap)
          clear hal hg89 hk89 hkb9 hks9 hset9 hap hA e0 e1 e2 e3 e4 f1
          go_wp2_with fail
          go_roundw
          case rel => exact ⟨k + 1, up Qf 5, mj, by omega, by go_num, HUP.out.mono (by omega) (Nat.le_refl _), HF.out.up (by omega), HS.out, HKB9.out⟩
          case measure => simp [intOf]; omega
end Go.Proofs.YtgobnlgmbplggaaGreatDoor
