/- personFault of the reference. -/
import Derived.Test.YtgobnlgmbplggaaGreatDoorU2
namespace Go.Proofs.YtgobnlgmbplggaaGreatDoor
open Go.RowKit

noncomputable def perQ (ps : List Plc) (q : Option ByteArray) (x : Per) : Int := if isKeyB x.key = false then 5 else if notUp q x.key = true then 7 else persF ps x
theorem perE_Q (ps : List Plc) (p : Option Per) (x : Per) : perE ps p x = perQ ps (p.map (·.key)) x := rfl
theorem leB_getD (q : Option ByteArray) {s : ByteArray} (h : isKeyB s = true) : leB s (q.getD ⟨#[]⟩) = notUp q s := by
  cases q with
  | none => exact leB_nil (isKeyB_ne h)
  | some p => rfl
section
variable {ps : List Plc} {x : Per} {q : Option ByteArray} {z : Int}
theorem perQ_key (h : isKeyB x.key = false) : perQ ps q x = 5 := by rw [perQ, if_pos h]
theorem perQ_up (h : isKeyB x.key = true) (h2 : leB x.key (q.getD ⟨#[]⟩) = true) : perQ ps q x = 7 := by rw [leB_getD q h] at h2; rw [perQ, if_neg (by rw [h]; decide), if_pos h2]
theorem perQ_in (h : isKeyB x.key = true) (h2 : leB x.key (q.getD ⟨#[]⟩) = false) : perQ ps q x = persF ps x := by rw [leB_getD q h] at h2; rw [perQ, if_neg (by rw [h]; decide), if_neg (by rw [h2]; decide)]
theorem persF_names (h : namesF x.names = z) (hz : z ≠ 0) : persF ps x = z := by rw [persF, h, if_pos hz]
theorem persF_homes (h0 : namesF x.names = 0) (h : homesF ps x.homes = z) (hz : z ≠ 0) : persF ps x = z := by rw [persF, h0, if_neg (by decide), h, if_pos hz]
theorem persF_mails (h0 : namesF x.names = 0) (h1 : homesF ps x.homes = 0) (h : mailsF x.mails = z) (hz : z ≠ 0) : persF ps x = z := by rw [persF, h0, if_neg (by decide), h1, if_neg (by decide), h, if_pos hz]
theorem persF_advs (h0 : namesF x.names = 0) (h1 : homesF ps x.homes = 0) (h2 : mailsF x.mails = 0) : persF ps x = advsF x.key x.advs := by rw [persF, h0, if_neg (by decide), h1, if_neg (by decide), h2, if_neg (by decide)]
end
theorem strs_mem {F : Nat → Prop} {w : World} {a : Option Addr} {len : Nat} {l : List ByteArray} (h : Sl RStr 1 F w a len l) : ∀ s ∈ l, s.size ≤ 1000000 := fun s hs => by
  obtain ⟨k, hk, rfl⟩ := List.mem_iff_getElem.1 hs
  obtain ⟨b, off, y, -, -, -, hz, hy, -, -⟩ := h.atStr (k := k) (by have := h.len; omega)
  rw [List.getElem?_eq_getElem hk] at hy
  cases hy
  exact hz
theorem mailAns {w : World} {a : Option Addr} {len : Nat} {l : List ByteArray} (h : Sl RStr 1 (fun _ => True) w a len l) : AnswersG Tryz.prog 144 #[] (fun _ => True) w (fun y : ByteArray => Value.string y) mailB l := by
  intro y hy wx _
  rw [Array.append_empty]
  exact (mailR_any y wx (strs_mem h y hy)).mono (by rintro e w' ⟨rfl, rfl⟩; exact ⟨rfl, Kept.refl _ _⟩)
set_option maxRecDepth 100000 in
set_option maxHeartbeats 12800000 in
theorem personFaultR_any (pa : Option Addr) (pl pc : Nat) (ps : List Plc) (p : Per) (a1 : Option Addr) (c1 : Nat) (a2 : Option Addr) (c2 : Nat) (a3 : Option Addr) (c3 : Nat) (a4 : Option Addr) (c4 : Nat) (q : Option ByteArray) (last : ByteArray) (hq : last = q.getD ⟨#[]⟩) (w : World) (hps : Sl RPlc 2 (fun _ => True) w pa pl ps) (hpl : pl ≤ 100000) (hp : PerIs (fun _ => True) w p a1 c1 a2 c2 a3 c3 a4 c4) (hg : Glob w) :
    Calls Tryz.prog 68 #[.slice pa pl pc, .agg #[.string p.key, .slice a1 p.names.length c1, .slice a2 p.homes.length c2, .slice a3 p.mails.length c3, .slice a4 p.advs.length c4], .string last] w fun e w' => e = .returned (.int .i64 (perQ ps q p)) ∧ All w w' := by
  obtain ⟨hs0, hs1, hs2, hs3, hs4⟩ := hp.small
  have HK0 := Lib.hid (show All w (w.alloc (.cells #[.string p.key, .slice a1 p.names.length c1, .slice a2 p.homes.length c2, .slice a3 p.mails.length c3, .slice a4 p.advs.length c4] 97)) from Kept.alloc _ _ _)
  have hb9 := heap_at w (.cells #[.string p.key, .slice a1 p.names.length c1, .slice a2 p.homes.length c2, .slice a3 p.mails.length c3, .slice a4 p.advs.length c4] 97) _ rfl
  obtain ⟨pb, hpb⟩ : ∃ z, z = w.heap.size := ⟨_, rfl⟩
  have HPB := Lib.hid hpb
  rw [← hpb] at hb9
  obtain ⟨w9, hw9⟩ : ∃ z, z = w.alloc (.cells #[.string p.key, .slice a1 p.names.length c1, .slice a2 p.homes.length c2, .slice a3 p.mails.length c3, .slice a4 p.advs.length c4] 97) := ⟨_, rfl⟩
  have HW9 := Lib.hid hw9
  rw [← hw9] at hb9 HK0
  have HC := Lib.hid (fun (wx : World) (k : All w9 wx) => k.heap hb9 trivial)
  have HN := Lib.hid (fun (wx : World) (k : All w9 wx) => namesFaultR_any a1 _ c1 p.names wx ((hp.keep (HK0.out.trans k)).rnames) (by omega) (hg.keep (HK0.out.trans k)))
  have HSH := Lib.hid (fun (wx : World) (k : All w9 wx) => (hp.keep (HK0.out.trans k)).rhomes)
  have HSM := Lib.hid (fun (wx : World) (k : All w9 wx) => (hp.keep (HK0.out.trans k)).rmails)
  have HSA := Lib.hid (fun (wx : World) (k : All w9 wx) => (hp.keep (HK0.out.trans k)).radvs)
  have HPL := Lib.hid (fun (s : ByteArray) (wx : World) (k : All w9 wx) => placeAt_any pa pl pc ps s wx (hps.keep RPlc.ok (HK0.out.trans k)) (by omega))
  have HKEY := Lib.hid (fun (s : ByteArray) (hz : s.size ≤ 1000000) (wx : World) => key_any s wx hz)
  have HQ := Lib.hid hq
  obtain ⟨hn, hhn⟩ : ∃ z, z = p.homes.length := ⟨_, rfl⟩
  obtain ⟨mn, hmn⟩ : ∃ z, z = p.mails.length := ⟨_, rfl⟩
  obtain ⟨an, han⟩ : ∃ z, z = p.advs.length := ⟨_, rfl⟩
  have HHN := Lib.hid hhn
  have HMN := Lib.hid hmn
  have HAN := Lib.hid han
  rw [← hhn] at HSH hs2 hb9 HC hw9 ⊢
  rw [← hmn] at HSM hs3 hb9 HC hw9 ⊢
  rw [← han] at HSA hs4 hb9 HC hw9 ⊢
  obtain ⟨zn, hzn⟩ : ∃ z, z = namesF p.names := ⟨_, rfl⟩
  have HZN := Lib.hid hzn
  rw [← hzn] at HN
  have HW9' := Lib.hid hw9
  have hall : All w9 w9 := Kept.refl _ _
  clear hpb hp hps hg hq hzn hhn hmn han hw9
  have e0 := cell_at (i := 0) (HC.out _ (by repeat (first | exact hall | refine Kept.then_drew ?_ | refine Kept.then_drewN ?_ _ | refine Kept.then_alloc ?_ _))) rfl
  have e1 := cell_at (i := 1) (HC.out _ (by repeat (first | exact hall | refine Kept.then_drew ?_ | refine Kept.then_drewN ?_ _ | refine Kept.then_alloc ?_ _))) rfl
  have e2 := cell_at (i := 2) (HC.out _ (by repeat (first | exact hall | refine Kept.then_drew ?_ | refine Kept.then_drewN ?_ _ | refine Kept.then_alloc ?_ _))) rfl
  have e3 := cell_at (i := 3) (HC.out _ (by repeat (first | exact hall | refine Kept.then_drew ?_ | refine Kept.then_drewN ?_ _ | refine Kept.then_alloc ?_ _))) rfl
  have e4 := cell_at (i := 4) (HC.out _ (by repeat (first | exact hall | refine Kept.then_drew ?_ | refine Kept.then_drewN ?_ _ | refine Kept.then_alloc ?_ _))) rfl
  go_enter Tryz.func68, Tryz.ntmps68
  go_upto_region 1 with fail
  simp only [← HPB.out, ← HW9'.out]
  clear hb9
  cases hky : isKeyB p.key with
  | false =>
    have HF := Lib.hid (perQ_key (ps := ps) (q := q) hky)
    go_wp2_with fail
    refine (HKEY.out _ hs0 _).mono ?_
    rintro e w' ⟨rfl, hkw⟩
    rw [hky]
    have hall := Kept.trans (show All w9 _ from (by repeat (first | exact hall | refine Kept.then_drew ?_ | refine Kept.then_drewN ?_ _ | refine Kept.then_alloc ?_ _))) hkw
    go_wp2_with fail
    go_ret
    exact ⟨ret_int' HF.out.symm, (HK0.out.trans (by repeat (first | exact hall | refine Kept.then_drew ?_ | refine Kept.then_drewN ?_ _ | refine Kept.then_alloc ?_ _)))⟩
  | true =>
  have hle0 := HQ.out ▸ (perQ_up (ps := ps) (q := q) hky)
  have hle1 := HQ.out ▸ (perQ_in (ps := ps) (q := q) hky)
  cases hle : leB p.key last with
  | true =>
    have hle' : (Op.bytesLess p.key.toList last.toList || p.key.toList == last.toList) = true := hle
    have HF := Lib.hid (hle0 hle)
    clear hle0 hle1 hle
    go_wp2_with fail
    refine (HKEY.out _ hs0 _).mono ?_
    rintro e w' ⟨rfl, hkw⟩
    rw [hky]
    have hall := Kept.trans (show All w9 _ from (by repeat (first | exact hall | refine Kept.then_drew ?_ | refine Kept.then_drewN ?_ _ | refine Kept.then_alloc ?_ _))) hkw
    have e0 := cell_at (i := 0) (HC.out _ (by repeat (first | exact hall | refine Kept.then_drew ?_ | refine Kept.then_drewN ?_ _ | refine Kept.then_alloc ?_ _))) rfl
    have e1 := cell_at (i := 1) (HC.out _ (by repeat (first | exact hall | refine Kept.then_drew ?_ | refine Kept.then_drewN ?_ _ | refine Kept.then_alloc ?_ _))) rfl
    have e2 := cell_at (i := 2) (HC.out _ (by repeat (first | exact hall | refine Kept.then_drew ?_ | refine Kept.then_drewN ?_ _ | refine Kept.then_alloc ?_ _))) rfl
    have e3 := cell_at (i := 3) (HC.out _ (by repeat (first | exact hall | refine Kept.then_drew ?_ | refine Kept.then_drewN ?_ _ | refine Kept.then_alloc ?_ _))) rfl
    have e4 := cell_at (i := 4) (HC.out _ (by repeat (first | exact hall | refine Kept.then_drew ?_ | refine Kept.then_drewN ?_ _ | refine Kept.then_alloc ?_ _))) rfl
    go_wp2_with fail
    go_ret
    exact ⟨ret_int' HF.out.symm, (HK0.out.trans (by repeat (first | exact hall | refine Kept.then_drew ?_ | refine Kept.then_drewN ?_ _ | refine Kept.then_alloc ?_ _)))⟩
  | false =>
  have hle' : (Op.bytesLess p.key.toList last.toList || p.key.toList == last.toList) = false := hle
  have HF0 := Lib.hid (hle1 hle)
  clear hle0 hle1 hle
  go_wp2_with fail
  refine (HKEY.out _ hs0 _).mono ?_
  rintro e w' ⟨rfl, hkw⟩
  rw [hky]
  have hall := Kept.trans (show All w9 _ from (by repeat (first | exact hall | refine Kept.then_drew ?_ | refine Kept.then_drewN ?_ _ | refine Kept.then_alloc ?_ _))) hkw
  clear hkw e0 e1 e2 e3 e4
  have e0 := cell_at (i := 0) (HC.out _ (by repeat (first | exact hall | refine Kept.then_drew ?_ | refine Kept.then_drewN ?_ _ | refine Kept.then_alloc ?_ _))) rfl
  have e1 := cell_at (i := 1) (HC.out _ (by repeat (first | exact hall | refine Kept.then_drew ?_ | refine Kept.then_drewN ?_ _ | refine Kept.then_alloc ?_ _))) rfl
  have e2 := cell_at (i := 2) (HC.out _ (by repeat (first | exact hall | refine Kept.then_drew ?_ | refine Kept.then_drewN ?_ _ | refine Kept.then_alloc ?_ _))) rfl
  have e3 := cell_at (i := 3) (HC.out _ (by repeat (first | exact hall | refine Kept.then_drew ?_ | refine Kept.then_drewN ?_ _ | refine Kept.then_alloc ?_ _))) rfl
  have e4 := cell_at (i := 4) (HC.out _ (by repeat (first | exact hall | refine Kept.then_drew ?_ | refine Kept.then_drewN ?_ _ | refine Kept.then_alloc ?_ _))) rfl
  go_wp2_with fail
  refine (HN.out _ (by repeat (first | exact hall | refine Kept.then_drew ?_ | refine Kept.then_drewN ?_ _ | refine Kept.then_alloc ?_ _))).mono ?_
  rintro e w1 ⟨rfl, hkw⟩
  have hall := Kept.trans (show All w9 _ from (by repeat (first | exact hall | refine Kept.then_drew ?_ | refine Kept.then_drewN ?_ _ | refine Kept.then_alloc ?_ _))) hkw
  clear hkw e0 e1 e2 e3 e4
  have e0 := cell_at (i := 0) (HC.out _ (by repeat (first | exact hall | refine Kept.then_drew ?_ | refine Kept.then_drewN ?_ _ | refine Kept.then_alloc ?_ _))) rfl
  have e1 := cell_at (i := 1) (HC.out _ (by repeat (first | exact hall | refine Kept.then_drew ?_ | refine Kept.then_drewN ?_ _ | refine Kept.then_alloc ?_ _))) rfl
  have e2 := cell_at (i := 2) (HC.out _ (by repeat (first | exact hall | refine Kept.then_drew ?_ | refine Kept.then_drewN ?_ _ | refine Kept.then_alloc ?_ _))) rfl
  have e3 := cell_at (i := 3) (HC.out _ (by repeat (first | exact hall | refine Kept.then_drew ?_ | refine Kept.then_drewN ?_ _ | refine Kept.then_alloc ?_ _))) rfl
  have e4 := cell_at (i := 4) (HC.out _ (by repeat (first | exact hall | refine Kept.then_drew ?_ | refine Kept.then_drewN ?_ _ | refine Kept.then_alloc ?_ _))) rfl
  by_cases hzz : zn = 0
  case neg =>
    have hnz : (zn != 0) = true := by simpa using hzz
    have HF := Lib.hid (show perQ ps q p = zn from by rw [HF0.out]; exact persF_names HZN.out.symm hzz)
    clear hzz
    go_wp2_with fail
    go_ret
    exact ⟨ret_int' HF.out.symm, (HK0.out.trans (by repeat (first | exact hall | refine Kept.then_drew ?_ | refine Kept.then_drewN ?_ _ | refine Kept.then_alloc ?_ _)))⟩
  subst hzz
  by_cases hbig : 20 < hn
  · have hd0 : decide ((20 : Int) < (hn : Int)) = true := by simp; omega
    have HF := Lib.hid (show perQ ps q p = 2 from by rw [HF0.out]; exact persF_homes HZN.out.symm (homesF_large (by rw [← HHN.out]; exact hbig)) (by decide))
    go_wp2_with fail
    go_ret
    exact ⟨ret_int' HF.out.symm, (HK0.out.trans (by repeat (first | exact hall | refine Kept.then_drew ?_ | refine Kept.then_drewN ?_ _ | refine Kept.then_alloc ?_ _)))⟩
  have hd0 : decide ((20 : Int) < (hn : Int)) = false := by simp; omega
  have HSC := Lib.hid (homesF_scan (ps := ps) (l := p.homes) (by rw [← HHN.out]; exact hbig))
  have HFH := Lib.hid (show ∀ z, z ≠ 0 → homesF ps p.homes = z → perQ ps q p = z from fun z hz h => by rw [HF0.out]; exact persF_homes HZN.out.symm h hz)
  go_wp2_with fail
  go_loopw [37] (fun i wr => ∃ k : Nat, k ≤ hn ∧ i = .int .i64 k ∧ ScanAt (homE ps) p.homes k ∧ All w9 wr) (fun i _ => hn - (intOf i).toNat)
  case atStart => exact ⟨0, Nat.zero_le _, rfl, ScanAt.zero _ _, (by repeat (first | exact hall | refine Kept.then_drew ?_ | refine Kept.then_drewN ?_ _ | refine Kept.then_alloc ?_ _))⟩
  case round =>
    clear hall e0 e1 e2 e3 e4
    obtain ⟨k, hk, rfl, hat, hall⟩ := hrel
    obtain ⟨wo, rfl⟩ : ∃ wo : World, wo = wr := ⟨_, rfl⟩
    by_cases hlt : k < hn
    · obtain ⟨b, off, x, ha, -, c0, c1', c2', ⟨hx1, hx2, hx3⟩, hx, -⟩ := (HSH.out _ hall).atHom hlt
      subst ha
      have HX := Lib.hid hx
      clear hx
      have HPA := Lib.hid (fun (wx : World) (kx : All w9 wx) => HPL.out x.place wx kx)
      have hb9 := heap_at wo (.cells #[.string x.place, .int .i64 x.frm, .int .i64 x.til] 101) _ rfl
      obtain ⟨xb, hxb⟩ : ∃ z, z = wo.heap.size := ⟨_, rfl⟩
      have HXB := Lib.hid hxb
      rw [← hxb] at hb9
      have hall' : All w9 (wo.alloc (.cells #[.string x.place, .int .i64 x.frm, .int .i64 x.til] 101)) := hall.then_alloc _
      clear hxb hall
      go_upto_region 13 with fail
      simp only [← HXB.out]
      generalize wo.alloc (.cells #[.string x.place, .int .i64 x.frm, .int .i64 x.til] 101) = w8 at *
      have hall := hall'
      have g0 := cell_at (i := 0) hb9 rfl
      have g1 := cell_at (i := 1) hb9 rfl
      have g2 := cell_at (i := 2) hb9 rfl
      clear hb9 c0 c1' c2' hall'
      rcases placeAtF_cases ps x.place with ⟨hhas, -, h2⟩ | ⟨kp, xp, hkp, -, hhas, -, h2⟩
      · have HF := Lib.hid (HFH.out 8 (by decide) (by rw [HSC.out]; exact hat.bad HX.out (homE_none hhas) (by decide)))
        rw [h2] at HPA
        clear hat h2
        go_wp2_with fail
        refine (HPA.out _ (by repeat (first | exact hall | refine Kept.then_drew ?_ | refine Kept.then_drewN ?_ _ | refine Kept.then_alloc ?_ _))).mono ?_
        rintro e w' ⟨rfl, hkw⟩
        have g0 := hkw.cell g0 trivial
        have g1 := hkw.cell g1 trivial
        have g2 := hkw.cell g2 trivial
        have hall := Kept.trans (show All w9 _ from (by repeat (first | exact hall | refine Kept.then_drew ?_ | refine Kept.then_drewN ?_ _ | refine Kept.then_alloc ?_ _))) hkw
        go_wp2_with fail
        go_ret
        exact ⟨ret_int' HF.out.symm, (HK0.out.trans (by repeat (first | exact hall | refine Kept.then_drew ?_ | refine Kept.then_drewN ?_ _ | refine Kept.then_alloc ?_ _)))⟩
      rw [h2] at HPA
      have q0 : decide ((kp : Int) < 0) = false := by simp
      clear h2 hkp
      by_cases hA : x.frm < 0 ∨ x.til ≤ x.frm ∨ 4001 < x.til
      · have HF := Lib.hid (HFH.out 1 (by decide) (by rw [HSC.out]; exact hat.bad HX.out (homE_arg hhas hA) (by decide)))
        clear hat
        by_cases h1 : x.frm < 0
        · have d1 : decide (x.frm < 0) = true := by simpa using h1
          clear hA
          go_wp2_with fail
          refine (HPA.out _ (by repeat (first | exact hall | refine Kept.then_drew ?_ | refine Kept.then_drewN ?_ _ | refine Kept.then_alloc ?_ _))).mono ?_
          rintro e w' ⟨rfl, hkw⟩
          have g0 := hkw.cell g0 trivial
          have g1 := hkw.cell g1 trivial
          have g2 := hkw.cell g2 trivial
          have hall := Kept.trans (show All w9 _ from (by repeat (first | exact hall | refine Kept.then_drew ?_ | refine Kept.then_drewN ?_ _ | refine Kept.then_alloc ?_ _))) hkw
          go_wp2_with fail
          go_ret
          exact ⟨ret_int' HF.out.symm, (HK0.out.trans (by repeat (first | exact hall | refine Kept.then_drew ?_ | refine Kept.then_drewN ?_ _ | refine Kept.then_alloc ?_ _)))⟩
        · have d1 : decide (x.frm < 0) = false := by simpa using h1
          by_cases h2 : x.til ≤ x.frm
          · have d2 : decide (x.til ≤ x.frm) = true := by simpa using h2
            clear hA
            go_wp2_with fail
            refine (HPA.out _ (by repeat (first | exact hall | refine Kept.then_drew ?_ | refine Kept.then_drewN ?_ _ | refine Kept.then_alloc ?_ _))).mono ?_
            rintro e w' ⟨rfl, hkw⟩
            have g0 := hkw.cell g0 trivial
            have g1 := hkw.cell g1 trivial
            have g2 := hkw.cell g2 trivial
            have hall := Kept.trans (show All w9 _ from (by repeat (first | exact hall | refine Kept.then_drew ?_ | refine Kept.then_drewN ?_ _ | refine Kept.then_alloc ?_ _))) hkw
            go_wp2_with fail
            go_ret
            exact ⟨ret_int' HF.out.symm, (HK0.out.trans (by repeat (first | exact hall | refine Kept.then_drew ?_ | refine Kept.then_drewN ?_ _ | refine Kept.then_alloc ?_ _)))⟩
          · have d2 : decide (x.til ≤ x.frm) = false := by simpa using h2
            have d3 : decide ((4001 : Int) < x.til) = true := by simp; omega
            clear hA
            go_wp2_with fail
            refine (HPA.out _ (by repeat (first | exact hall | refine Kept.then_drew ?_ | refine Kept.then_drewN ?_ _ | refine Kept.then_alloc ?_ _))).mono ?_
            rintro e w' ⟨rfl, hkw⟩
            have g0 := hkw.cell g0 trivial
            have g1 := hkw.cell g1 trivial
            have g2 := hkw.cell g2 trivial
            have hall := Kept.trans (show All w9 _ from (by repeat (first | exact hall | refine Kept.then_drew ?_ | refine Kept.then_drewN ?_ _ | refine Kept.then_alloc ?_ _))) hkw
            go_wp2_with fail
            go_ret
            exact ⟨ret_int' HF.out.symm, (HK0.out.trans (by repeat (first | exact hall | refine Kept.then_drew ?_ | refine Kept.then_drewN ?_ _ | refine Kept.then_alloc ?_ _)))⟩
      have d1 : decide (x.frm < 0) = false := by simp; omega
      have d2 : decide (x.til ≤ x.frm) = false := by simp; omega
      have d3 : decide ((4001 : Int) < x.til) = false := by simp; omega
      rcases k with _ | k
      · have HNX := Lib.hid (hat.next HX.out (homE_ok hhas hA rfl))
        clear hat hA
        go_wp2_with fail
        refine (HPA.out _ (by repeat (first | exact hall | refine Kept.then_drew ?_ | refine Kept.then_drewN ?_ _ | refine Kept.then_alloc ?_ _))).mono ?_
        rintro e w' ⟨rfl, hkw⟩
        have g0 := hkw.cell g0 trivial
        have g1 := hkw.cell g1 trivial
        have g2 := hkw.cell g2 trivial
        have hall := Kept.trans (show All w9 _ from (by repeat (first | exact hall | refine Kept.then_drew ?_ | refine Kept.then_drewN ?_ _ | refine Kept.then_alloc ?_ _))) hkw
        go_upto_region 17 with fail
        go_quiet (fail)
        go_wp2_with fail
        go_roundw
        case rel => exact ⟨1, by omega, rfl, HNX.out, (by repeat (first | exact hall | refine Kept.then_drew ?_ | refine Kept.then_drewN ?_ _ | refine Kept.then_alloc ?_ _))⟩
        case measure => simp [intOf]; omega
      · have f1 : (0 : Int) ≤ (k : Int) := by omega
        have f2 : (k : Int) < (hn : Int) := by omega
        have f3 : k < hn := by omega
        have f4 : IntKind.i64.wrap (k : Int) = (k : Int) := IntWalk.i64_in _ (by omega)
        obtain ⟨b', off', y, ha', -, d0, d4, d5, hys, hy, -⟩ := (HSH.out _ hall).atHom (k := k) f3
        cases ha'
        have f5 := lt_of_cell d0
        have hpv := Lib.hid (show prevAt p.homes (k + 1) = some y from prevAt_succ hy)
        have HCMP := Lib.hid (fun (wx : World) => homeOrder_any y x wx hys ⟨hx1, hx2, hx3⟩)
        clear hy hys
        obtain ⟨z, hz⟩ : ∃ z, z = cfH y x := ⟨_, rfl⟩
        rw [← hz] at HCMP
        by_cases hup : 0 ≤ z
        · have u0 : decide ((0 : Int) ≤ z) = true := by simpa using hup
          have he : homE ps (prevAt p.homes (k + 1)) x = 7 := by rw [hpv.out]; exact homE_order hhas hA (by show decide (0 ≤ cfH y x) = true; rw [← hz]; exact u0)
          have HF := Lib.hid (HFH.out 7 (by decide) (by rw [HSC.out]; exact hat.bad HX.out he (by decide)))
          clear hat hup he hA hz
          go_wp2_with fail
          refine (HPA.out _ (by repeat (first | exact hall | refine Kept.then_drew ?_ | refine Kept.then_drewN ?_ _ | refine Kept.then_alloc ?_ _))).mono ?_
          rintro e w' ⟨rfl, hkw⟩
          have g0 := hkw.cell g0 trivial
          have g1 := hkw.cell g1 trivial
          have g2 := hkw.cell g2 trivial
          have hall := Kept.trans (show All w9 _ from (by repeat (first | exact hall | refine Kept.then_drew ?_ | refine Kept.then_drewN ?_ _ | refine Kept.then_alloc ?_ _))) hkw
          have e2 := cell_at (i := 2) (HC.out _ (by repeat (first | exact hall | refine Kept.then_drew ?_ | refine Kept.then_drewN ?_ _ | refine Kept.then_alloc ?_ _))) rfl
          have d0 := hkw.cell d0 trivial
          have d4 := hkw.cell d4 trivial
          have d5 := hkw.cell d5 trivial
          go_upto_region 17 with fail
          go_region_held3 (fun w' => w'.cell? ⟨b, off + k * 3, none⟩ = some (.string y.place) ∧ w'.cell? ⟨b, off + k * 3 + 1, none⟩ = some (.int .i64 y.frm) ∧ w'.cell? ⟨b, off + k * 3 + 2, none⟩ = some (.int .i64 y.til) ∧ w'.cell? ⟨xb, 0, none⟩ = some (.string x.place) ∧ w'.cell? ⟨xb, 1, none⟩ = some (.int .i64 x.frm) ∧ w'.cell? ⟨xb, 2, none⟩ = some (.int .i64 x.til) ∧ w'.cell? ⟨pb, 2, none⟩ = some (.slice (some ⟨b, off, none⟩) hn c2)) (first | exact ⟨d0, d4, d5, g0, g1, g2, e2⟩ | exact ⟨m0, m1, m2, m3, m4, m5, m6⟩ | go_keep) (first | (go_at_call 142; refine (HCMP.out _).mono ?_; rintro e wa ⟨rfl, hwa⟩; have m0 := hwa.1.cell d0 trivial; have m1 := hwa.1.cell d4 trivial; have m2 := hwa.1.cell d5 trivial; have m3 := hwa.1.cell g0 trivial; have m4 := hwa.1.cell g1 trivial; have m5 := hwa.1.cell g2 trivial; have m6 := hwa.1.cell e2 trivial; have hall := Kept.trans (show All w9 _ from (by repeat (first | exact hall | refine Kept.then_drew ?_ | refine Kept.then_drewN ?_ _ | refine Kept.then_alloc ?_ _))) hwa.1))
          go_wp2_with fail
          go_ret
          exact ⟨ret_int' HF.out.symm, (HK0.out.trans (by repeat (first | exact hall | refine Kept.then_drew ?_ | refine Kept.then_drewN ?_ _ | refine Kept.then_alloc ?_ _)))⟩
        · have u0 : decide ((0 : Int) ≤ z) = false := by simpa using hup
          have he : homE ps (prevAt p.homes (k + 1)) x = 0 := by rw [hpv.out]; exact homE_ok hhas hA (by show decide (0 ≤ cfH y x) = false; rw [← hz]; exact u0)
          have HNX := Lib.hid (hat.next HX.out he)
          clear hat hup he hA hz
          go_wp2_with fail
          refine (HPA.out _ (by repeat (first | exact hall | refine Kept.then_drew ?_ | refine Kept.then_drewN ?_ _ | refine Kept.then_alloc ?_ _))).mono ?_
          rintro e w' ⟨rfl, hkw⟩
          have g0 := hkw.cell g0 trivial
          have g1 := hkw.cell g1 trivial
          have g2 := hkw.cell g2 trivial
          have hall := Kept.trans (show All w9 _ from (by repeat (first | exact hall | refine Kept.then_drew ?_ | refine Kept.then_drewN ?_ _ | refine Kept.then_alloc ?_ _))) hkw
          have e2 := cell_at (i := 2) (HC.out _ (by repeat (first | exact hall | refine Kept.then_drew ?_ | refine Kept.then_drewN ?_ _ | refine Kept.then_alloc ?_ _))) rfl
          have d0 := hkw.cell d0 trivial
          have d4 := hkw.cell d4 trivial
          have d5 := hkw.cell d5 trivial
          go_upto_region 17 with fail
          go_region_held3 (fun w' => w'.cell? ⟨b, off + k * 3, none⟩ = some (.string y.place) ∧ w'.cell? ⟨b, off + k * 3 + 1, none⟩ = some (.int .i64 y.frm) ∧ w'.cell? ⟨b, off + k * 3 + 2, none⟩ = some (.int .i64 y.til) ∧ w'.cell? ⟨xb, 0, none⟩ = some (.string x.place) ∧ w'.cell? ⟨xb, 1, none⟩ = some (.int .i64 x.frm) ∧ w'.cell? ⟨xb, 2, none⟩ = some (.int .i64 x.til) ∧ w'.cell? ⟨pb, 2, none⟩ = some (.slice (some ⟨b, off, none⟩) hn c2)) (first | exact ⟨d0, d4, d5, g0, g1, g2, e2⟩ | exact ⟨m0, m1, m2, m3, m4, m5, m6⟩ | go_keep) (first | (go_at_call 142; refine (HCMP.out _).mono ?_; rintro e wa ⟨rfl, hwa⟩; have m0 := hwa.1.cell d0 trivial; have m1 := hwa.1.cell d4 trivial; have m2 := hwa.1.cell d5 trivial; have m3 := hwa.1.cell g0 trivial; have m4 := hwa.1.cell g1 trivial; have m5 := hwa.1.cell g2 trivial; have m6 := hwa.1.cell e2 trivial; have hall := Kept.trans (show All w9 _ from (by repeat (first | exact hall | refine Kept.then_drew ?_ | refine Kept.then_drewN ?_ _ | refine Kept.then_alloc ?_ _))) hwa.1))
          go_wp2_with fail
          go_roundw
          case rel => exact ⟨k + 1 + 1, by omega, by go_num, HNX.out, (by repeat (first | exact hall | refine Kept.then_drew ?_ | refine Kept.then_drewN ?_ _ | refine Kept.then_alloc ?_ _))⟩
          case measure => simp [intOf]; omega
    · have hd : decide ((k : Int) < (hn : Int)) = false := by simp; omega
      have HZH := Lib.hid (show homesF ps p.homes = 0 from by rw [HSC.out]; exact hat.ok (by have := HHN.out; omega))
      have HFM := Lib.hid (show ∀ z, z ≠ 0 → mailsF p.mails = z → perQ ps q p = z from fun z hz h => by rw [HF0.out]; exact persF_mails HZN.out.symm HZH.out h hz)
      have HFA := Lib.hid (show mailsF p.mails = 0 → perQ ps q p = advsF p.key p.advs from fun h => by rw [HF0.out]; exact persF_advs HZN.out.symm HZH.out h)
      clear hat HFH HSC HSH HPL
      have e0 := cell_at (i := 0) (HC.out _ (by repeat (first | exact hall | refine Kept.then_drew ?_ | refine Kept.then_drewN ?_ _ | refine Kept.then_alloc ?_ _))) rfl
      have e1 := cell_at (i := 1) (HC.out _ (by repeat (first | exact hall | refine Kept.then_drew ?_ | refine Kept.then_drewN ?_ _ | refine Kept.then_alloc ?_ _))) rfl
      have e2 := cell_at (i := 2) (HC.out _ (by repeat (first | exact hall | refine Kept.then_drew ?_ | refine Kept.then_drewN ?_ _ | refine Kept.then_alloc ?_ _))) rfl
      have e3 := cell_at (i := 3) (HC.out _ (by repeat (first | exact hall | refine Kept.then_drew ?_ | refine Kept.then_drewN ?_ _ | refine Kept.then_alloc ?_ _))) rfl
      have e4 := cell_at (i := 4) (HC.out _ (by repeat (first | exact hall | refine Kept.then_drew ?_ | refine Kept.then_drewN ?_ _ | refine Kept.then_alloc ?_ _))) rfl
      by_cases hbig2 : 10 < mn
      · have hd1 : decide ((10 : Int) < (mn : Int)) = true := by simp; omega
        have HF := Lib.hid (HFM.out 2 (by decide) (mailsF_large (by rw [← HMN.out]; exact hbig2)))
        go_wp2_with fail
        go_ret
        exact ⟨ret_int' HF.out.symm, (HK0.out.trans (by repeat (first | exact hall | refine Kept.then_drew ?_ | refine Kept.then_drewN ?_ _ | refine Kept.then_alloc ?_ _)))⟩
      have hd1 : decide ((10 : Int) < (mn : Int)) = false := by simp; omega
      have HSC := Lib.hid (mailsF_scan (l := p.mails) (by rw [← HMN.out]; exact hbig2))
      have eg : ∀ args w, (callFunc 144 args).run Tryz.prog w = .ok (.enter 144 args) w := enters_of Tryz.func144 (by kernel_rfl) rfl
      have HRI := Lib.hid (fun (wx : World) (kx : All w9 wx) => rising_any 144 #[] eg mailB 3 (by decide) (fun _ => True) a3 mn c3 p.mails wx (HSM.out wx kx) (by omega) (mailAns (HSM.out wx kx)))
      rw [risE_mail, ← HSC.out] at HRI
      clear eg
      obtain ⟨zm, hzm⟩ : ∃ z, z = mailsF p.mails := ⟨_, rfl⟩
      have HZM := Lib.hid hzm
      rw [← hzm] at HRI
      clear hzm
      go_wp2_with fail
      refine (HRI.out _ (by repeat (first | exact hall | refine Kept.then_drew ?_ | refine Kept.then_drewN ?_ _ | refine Kept.then_alloc ?_ _))).mono ?_
      rintro e w' ⟨rfl, hkw⟩
      have hall := Kept.trans (show All w9 _ from (by repeat (first | exact hall | refine Kept.then_drew ?_ | refine Kept.then_drewN ?_ _ | refine Kept.then_alloc ?_ _))) hkw
      clear hkw e0 e1 e2 e3 e4
      have e0 := cell_at (i := 0) (HC.out _ (by repeat (first | exact hall | refine Kept.then_drew ?_ | refine Kept.then_drewN ?_ _ | refine Kept.then_alloc ?_ _))) rfl
      have e1 := cell_at (i := 1) (HC.out _ (by repeat (first | exact hall | refine Kept.then_drew ?_ | refine Kept.then_drewN ?_ _ | refine Kept.then_alloc ?_ _))) rfl
      have e2 := cell_at (i := 2) (HC.out _ (by repeat (first | exact hall | refine Kept.then_drew ?_ | refine Kept.then_drewN ?_ _ | refine Kept.then_alloc ?_ _))) rfl
      have e3 := cell_at (i := 3) (HC.out _ (by repeat (first | exact hall | refine Kept.then_drew ?_ | refine Kept.then_drewN ?_ _ | refine Kept.then_alloc ?_ _))) rfl
      have e4 := cell_at (i := 4) (HC.out _ (by repeat (first | exact hall | refine Kept.then_drew ?_ | refine Kept.then_drewN ?_ _ | refine Kept.then_alloc ?_ _))) rfl
      by_cases hzz : zm = 0
      case neg =>
        have hnz : (zm != 0) = true := by simpa using hzz
        have HF := Lib.hid (HFM.out zm hzz HZM.out.symm)
        clear hzz
        go_wp2_with fail
        go_ret
        exact ⟨ret_int' HF.out.symm, (HK0.out.trans (by repeat (first | exact hall | refine Kept.then_drew ?_ | refine Kept.then_drewN ?_ _ | refine Kept.then_alloc ?_ _)))⟩
      subst hzz
      have HFB := Lib.hid (HFA.out HZM.out.symm)
      by_cases hbig3 : 10 < an
      · have hd2 : decide ((10 : Int) < (an : Int)) = true := by simp; omega
        have HF := Lib.hid (show perQ ps q p = 2 from by rw [HFB.out]; exact advsF_large (by rw [← HAN.out]; exact hbig3))
        go_wp2_with fail
        go_ret
        exact ⟨ret_int' HF.out.symm, (HK0.out.trans (by repeat (first | exact hall | refine Kept.then_drew ?_ | refine Kept.then_drewN ?_ _ | refine Kept.then_alloc ?_ _)))⟩
      have hd2 : decide ((10 : Int) < (an : Int)) = false := by simp; omega
      have HSD := Lib.hid (advsF_scan (key := p.key) (l := p.advs) (by rw [← HAN.out]; exact hbig3))
      go_wp2_with fail
      go_loopw [11, 96] (fun t i wr => ∃ (k : Nat) (t0 : ByteArray), k ≤ an ∧ t = .string t0 ∧ i = .int .i64 k ∧ t0 = lastK (fun s => s) p.advs k ∧ ScanAt (advE p.key) p.advs k ∧ All w9 wr) (fun _ i _ => an - (intOf i).toNat)
      case atStart => exact ⟨0, _, Nat.zero_le _, rfl, rfl, rfl, ScanAt.zero _ _, (by repeat (first | exact hall | refine Kept.then_drew ?_ | refine Kept.then_drewN ?_ _ | refine Kept.then_alloc ?_ _))⟩
      case round =>
        clear hall e0 e1 e2 e3 e4 hd
        obtain ⟨k, t0, hk, rfl, rfl, ht0, hat, hall⟩ := hrel
        obtain ⟨wo, rfl⟩ : ∃ wo : World, wo = wr := ⟨_, rfl⟩
        have HT0 := Lib.hid ht0
        clear ht0
        by_cases hlt : k < an
        · obtain ⟨b, off, x, ha, -, c0, hxz, hx, -, -⟩ := (HSA.out _ hall).atStr hlt
          subst ha
          have HX := Lib.hid hx
          clear hx
          have e0 := cell_at (i := 0) (HC.out _ (by repeat (first | exact hall | refine Kept.then_drew ?_ | refine Kept.then_drewN ?_ _ | refine Kept.then_alloc ?_ _))) rfl
          have e1 := cell_at (i := 1) (HC.out _ (by repeat (first | exact hall | refine Kept.then_drew ?_ | refine Kept.then_drewN ?_ _ | refine Kept.then_alloc ?_ _))) rfl
          have e2 := cell_at (i := 2) (HC.out _ (by repeat (first | exact hall | refine Kept.then_drew ?_ | refine Kept.then_drewN ?_ _ | refine Kept.then_alloc ?_ _))) rfl
          have e3 := cell_at (i := 3) (HC.out _ (by repeat (first | exact hall | refine Kept.then_drew ?_ | refine Kept.then_drewN ?_ _ | refine Kept.then_alloc ?_ _))) rfl
          have e4 := cell_at (i := 4) (HC.out _ (by repeat (first | exact hall | refine Kept.then_drew ?_ | refine Kept.then_drewN ?_ _ | refine Kept.then_alloc ?_ _))) rfl
          have hup0 := lastK_up (fun s : ByteArray => s) p.advs k (s := x)
          rw [← HT0.out] at hup0
          cases hkx : isKeyB x with
          | false =>
            have HF := Lib.hid (show perQ ps q p = 5 from by rw [HFB.out, HSD.out]; exact hat.bad HX.out (advE_name hkx) (by decide))
            clear hat hup0
            go_wp2_with fail
            refine (HKEY.out _ hxz _).mono ?_
            rintro e w' ⟨rfl, hkw⟩
            rw [hkx]
            have hall := Kept.trans (show All w9 _ from (by repeat (first | exact hall | refine Kept.then_drew ?_ | refine Kept.then_drewN ?_ _ | refine Kept.then_alloc ?_ _))) hkw
            go_wp2_with fail
            go_ret
            exact ⟨ret_int' HF.out.symm, (HK0.out.trans (by repeat (first | exact hall | refine Kept.then_drew ?_ | refine Kept.then_drewN ?_ _ | refine Kept.then_alloc ?_ _)))⟩
          | true =>
          have hup1 := hup0 (isKeyB_ne hkx)
          rw [Option.map_id_fun'] at hup1
          clear hup0
          cases hle2 : leB x t0 with
          | true =>
            have hle2' : (Op.bytesLess x.toList t0.toList || x.toList == t0.toList) = true := hle2
            rw [hle2] at hup1
            have HF := Lib.hid (show perQ ps q p = 7 from by rw [HFB.out, HSD.out]; exact hat.bad HX.out (advE_order hkx hup1.symm) (by decide))
            clear hat hle2 hup1
            go_wp2_with fail
            refine (HKEY.out _ hxz _).mono ?_
            rintro e w' ⟨rfl, hkw⟩
            rw [hkx]
            have hall := Kept.trans (show All w9 _ from (by repeat (first | exact hall | refine Kept.then_drew ?_ | refine Kept.then_drewN ?_ _ | refine Kept.then_alloc ?_ _))) hkw
            go_wp2_with fail
            go_ret
            exact ⟨ret_int' HF.out.symm, (HK0.out.trans (by repeat (first | exact hall | refine Kept.then_drew ?_ | refine Kept.then_drewN ?_ _ | refine Kept.then_alloc ?_ _)))⟩
          | false =>
          have hle2' : (Op.bytesLess x.toList t0.toList || x.toList == t0.toList) = false := hle2
          rw [hle2] at hup1
          by_cases hself : x = p.key
          · have hse : (x.toList == p.key.toList) = true := by rw [hself]; simp
            have HF := Lib.hid (show perQ ps q p = 14 from by rw [HFB.out, HSD.out]; exact hat.bad HX.out (advE_self hkx hup1.symm hself) (by decide))
            clear hat hle2 hup1 hself
            go_wp2_with fail
            refine (HKEY.out _ hxz _).mono ?_
            rintro e w' ⟨rfl, hkw⟩
            rw [hkx]
            have hall := Kept.trans (show All w9 _ from (by repeat (first | exact hall | refine Kept.then_drew ?_ | refine Kept.then_drewN ?_ _ | refine Kept.then_alloc ?_ _))) hkw
            have e0 := cell_at (i := 0) (HC.out _ hall) rfl
            go_wp2_with fail
            go_ret
            exact ⟨ret_int' HF.out.symm, (HK0.out.trans (by repeat (first | exact hall | refine Kept.then_drew ?_ | refine Kept.then_drewN ?_ _ | refine Kept.then_alloc ?_ _)))⟩
          · have hse : (x.toList == p.key.toList) = false := by rw [beq_eq_false_iff_ne]; exact fun e => hself (bytes_ext e)
            have HNX := Lib.hid (hat.next HX.out (advE_ok hkx hup1.symm hself))
            clear hat hle2 hup1 hself
            go_wp2_with fail
            refine (HKEY.out _ hxz _).mono ?_
            rintro e w' ⟨rfl, hkw⟩
            rw [hkx]
            have hall := Kept.trans (show All w9 _ from (by repeat (first | exact hall | refine Kept.then_drew ?_ | refine Kept.then_drewN ?_ _ | refine Kept.then_alloc ?_ _))) hkw
            have e0 := cell_at (i := 0) (HC.out _ hall) rfl
            go_wp2_with fail
            go_roundw
            case rel => exact ⟨k + 1, _, by omega, rfl, by go_num, (lastK_next (key := fun s : ByteArray => s) HX.out).symm, HNX.out, (by repeat (first | exact hall | refine Kept.then_drew ?_ | refine Kept.then_drewN ?_ _ | refine Kept.then_alloc ?_ _))⟩
            case measure => simp [intOf]; omega
        · have hd : decide ((k : Int) < (an : Int)) = false := by simp; omega
          have HF := Lib.hid (show perQ ps q p = 0 from by rw [HFB.out, HSD.out]; exact hat.ok (by have := HAN.out; omega))
          clear hat
          go_wp2_with fail
          go_ret
          exact ⟨ret_int' HF.out.symm, (HK0.out.trans (by repeat (first | exact hall | refine Kept.then_drew ?_ | refine Kept.then_drewN ?_ _ | refine Kept.then_alloc ?_ _)))⟩
end Go.Proofs.YtgobnlgmbplggaaGreatDoor
