/- RightWorld. -/
import Derived.Test.YtgobnlgmbplggaaGreatDoorI1
namespace Go.Proofs.YtgobnlgmbplggaaGreatDoor
open Go.RowKit

set_option maxRecDepth 100000 in
set_option maxHeartbeats 102400000 in
theorem rightWorld_any (σ : St) (n B : Nat) (N : Nat → Nat) (pp : Nat) (w0 : World) (hs : Str σ w0 n) (hn : n ≤ 4611686018400000000) (h7 : 7 < σ.b) (hσ : σ.b < B) (hB : B ≤ w0.heap.size) (hg : Glob w0) (hp : pp ≤ 1000000) (hN : ∀ x, N x = 8) :
    Calls Tryz.prog 57 #[.pointer (some ⟨σ.b, 0, none⟩), .int .i64 pp] w0 fun e w' => ∃ v m N', e = .returned v ∧ WldG B N' w' v ∧ GenX σ B N N' n 100000 w0 w' m ∧ ∀ x, 8 ≤ N' x ∧ N' x ≤ 100 := by
  have hk1 : All w0 (w0.alloc (.cells #[.slice none 0 0, .slice none 0 0, .slice none 0 0, .slice none 0 0] 31)) := Kept.alloc _ _ _
  have ha1 : TB Θw B N (w0.alloc (.cells #[.slice none 0 0, .slice none 0 0, .slice none 0 0, .slice none 0 0] 31)) w0.heap.size 7 1 := TB.lit1 (Θ := Θw) (kd := 7) hB (by decide) ⟨Or.inl ⟨_, rfl⟩, Or.inl ⟨_, rfl⟩, Or.inl ⟨_, rfl⟩, Or.inl ⟨_, rfl⟩, trivial⟩
  have hk2 : All (w0.alloc (.cells #[.slice none 0 0, .slice none 0 0, .slice none 0 0, .slice none 0 0] 31)) ((w0.alloc (.cells #[.slice none 0 0, .slice none 0 0, .slice none 0 0, .slice none 0 0] 31)).alloc (.cells #[.slice none 0 0, .slice none 0 0, .slice none 0 0, .slice none 0 0] 31)) := Kept.alloc _ _ _
  have ha2 : TB Θw B N ((w0.alloc (.cells #[.slice none 0 0, .slice none 0 0, .slice none 0 0, .slice none 0 0] 31)).alloc (.cells #[.slice none 0 0, .slice none 0 0, .slice none 0 0, .slice none 0 0] 31)) (w0.alloc (.cells #[.slice none 0 0, .slice none 0 0, .slice none 0 0, .slice none 0 0] 31)).heap.size 7 1 := TB.lit1 (Θ := Θw) (kd := 7) (Nat.le_trans hB hk1.size) (by decide) ⟨Or.inl ⟨_, rfl⟩, Or.inl ⟨_, rfl⟩, Or.inl ⟨_, rfl⟩, Or.inl ⟨_, rfl⟩, trivial⟩
  have hbs : (w0.alloc (.cells #[.slice none 0 0, .slice none 0 0, .slice none 0 0, .slice none 0 0] 31)).heap.size = w0.heap.size + 1 := by simp
  rw [hbs] at ha2
  obtain ⟨w1, hw1⟩ : ∃ z, z = (w0.alloc (.cells #[.slice none 0 0, .slice none 0 0, .slice none 0 0, .slice none 0 0] 31)).alloc (.cells #[.slice none 0 0, .slice none 0 0, .slice none 0 0, .slice none 0 0] 31) := ⟨_, rfl⟩
  have hgo1 := (Goes.all hk2).tb _ _ _ ha1
  have hk := hk1.trans hk2
  rw [← hw1] at ha2 hgo1 hk
  obtain ⟨rb, hrb⟩ : ∃ z, z = w0.heap.size := ⟨_, rfl⟩
  rw [← hrb] at ha2 hgo1
  have HW1 := Lib.hid hw1
  have HRN := Lib.hid hrb
  have HRB1 := Lib.hid hgo1
  have HWB1 := Lib.hid ha2
  have HGX1 := Lib.hid (show GenX σ B N N n 0 w0 w1 n from ⟨hs.keep hk, Nat.le_refl _, Nat.le_refl _, hk.mono (fun _ _ => trivial), Goes.all hk, Nat.le_trans hB hk.size⟩)
  have HG0 := Lib.hid hg
  have HN8 := Lib.hid (show Nb N 0 0 from fun x => by rw [hN x]; exact ⟨Nat.le_refl _, Nat.le_refl _, fun _ => Nat.le_refl _⟩)
  obtain ⟨wb, hwb⟩ : ∃ z, z = rb + 1 := ⟨_, rfl⟩
  have HWN := Lib.hid hwb
  rw [← hwb] at HWB1
  clear hk hk1 hk2 ha1 ha2 hgo1 hw1 hbs hrb hs hg hN hwb hB
  go_enter Tryz.func57, Tryz.ntmps57
  go_upto_region 2 with fail
  simp only [← HRN.out, ← HW1.out, ← HWN.out]
  clear HW1 HRN HWN
  have hkl : All w1 (w1.alloc (.cells #[.string ⟨#[100, 101, 112, 116]⟩, .string ⟨#[105, 110, 115, 116]⟩, .string ⟨#[108, 97, 98]⟩, .string ⟨#[117, 110, 105]⟩] 9)) := Kept.alloc _ _ _
  have hlb : TB Θw B N (w1.alloc (.cells #[.string ⟨#[100, 101, 112, 116]⟩, .string ⟨#[105, 110, 115, 116]⟩, .string ⟨#[108, 97, 98]⟩, .string ⟨#[117, 110, 105]⟩] 9)) w1.heap.size 0 4 := TB.litN (Θ := Θw) (kd := 0) (f := .s) (vs := [.string ⟨#[100, 101, 112, 116]⟩, .string ⟨#[105, 110, 115, 116]⟩, .string ⟨#[108, 97, 98]⟩, .string ⟨#[117, 110, 105]⟩]) HGX1.out.lt rfl rfl ⟨⟨_, rfl, by decide⟩, ⟨_, rfl, by decide⟩, ⟨_, rfl, by decide⟩, ⟨_, rfl, by decide⟩, trivial⟩
  obtain ⟨w2, hw2⟩ : ∃ z, z = w1.alloc (.cells #[.string ⟨#[100, 101, 112, 116]⟩, .string ⟨#[105, 110, 115, 116]⟩, .string ⟨#[108, 97, 98]⟩, .string ⟨#[117, 110, 105]⟩] 9) := ⟨_, rfl⟩
  obtain ⟨lb, hlbn⟩ : ∃ z, z = w1.heap.size := ⟨_, rfl⟩
  rw [← hw2] at hkl hlb
  rw [← hlbn] at hlb
  have HW2 := Lib.hid hw2
  have HLN := Lib.hid hlbn
  have HLB := Lib.hid hlb
  have HWB2 := Lib.hid ((Goes.all hkl).tb _ _ _ HWB1.out)
  have HRB2 := Lib.hid ((Goes.all hkl).tb _ _ _ HRB1.out)
  have HGX2 := Lib.hid (HGX1.out.alls hσ hkl)
  clear hw2 hlbn hlb hkl HWB1 HRB1 HGX1
  go_upto_block 0 with fail
  simp only [← HLN.out, ← HW2.out]
  clear HLN HW2
  go_cut [] (fun wx => ∃ (N' : Nat → Nat) (m : Nat), Nb N' 4 0 ∧ GenX σ B N N' n 100 w0 wx m ∧ Goes Θw B N w2 N' wx)
  case first =>
    go_wp2_with fail
    go_loopw [20] (fun i wr => ∃ (k : Nat) (N' : Nat → Nat) (m : Nat), k ≤ 4 ∧ i = .int .i64 k ∧ Nb N' k 0 ∧ GenX σ B N N' n (10 * k) w0 wr m ∧ Goes Θw B N w2 N' wr) (fun i _ => 4 - (intOf i).toNat)
    case atStart => exact ⟨0, N, n, Nat.zero_le _, rfl, HN8.out, HGX2.out, Goes.refl _ _ _ _⟩
    case round =>
      obtain ⟨k, N', m, hk, rfl, hnb, hgen, hgoes⟩ := hrel
      obtain ⟨wo, rfl⟩ : ∃ z : World, z = wr := ⟨_, rfl⟩
      have HNB := Lib.hid hnb
      have HGX := Lib.hid hgen
      have HGO := Lib.hid hgoes
      have HWB := Lib.hid (hgoes.tb _ _ _ HWB2.out)
      clear hnb hgen hgoes
      by_cases hlt : k < 4
      case neg =>
        have hd : decide ((k : Int) < 4) = false := by simp; omega
        go_wp2_with fail
        go_meet
        exact ⟨N', m, HNB.out.mono (by omega) (Nat.le_refl _), HGX.out.up (by omega), HGO.out⟩
      have hd : decide ((k : Int) < 4) = true := by simp; omega
      obtain ⟨ks, c0, hks⟩ := (HGO.out.tb _ _ _ HLB.out).ldS (i := k) (j := 0) (o := k) hlt rfl (by show k = k * 1 + 0; omega)
      have hst := HGX.out.st
      have hhi := HGX.out.hi
      have k1 : (0 : Int) ≤ (k : Int) := by omega
      have k2 : (k : Int) < 4 := by omega
      go_wp2_with fail
      refine (flip_any σ m 4 _ hst (by omega) (by omega) (by omega)).mono ?_
      rintro e w3 ⟨v, m3, rfl, ⟨b, rfl⟩, hA3, hB3, hs3, hb3⟩
      have HGX3 := Lib.hid (HGX.out.call hσ hb3 hs3 hA3 hB3)
      have HGO3 := Lib.hid (HGO.out.trans (Goes.but hb3 hσ))
      have HWB3 := Lib.hid ((Goes.but (Θ := Θw) (N := N') hb3 hσ).tb _ _ _ HWB.out)
      clear hst hs3 hb3 c0 HWB HGX HGO
      cases b with
      | true =>
        go_wp2_with fail
        go_roundw
        case rel => exact ⟨k + 1, N', m3, by omega, by go_num, HNB.out.mono (by omega) (Nat.le_refl _), HGX3.out.up (by omega), HGO3.out⟩
        case measure => simp [intOf]; omega
      | false =>
        have hkp : All w3 (w3.alloc (.cells #[.string ks, .string ⟨#[]⟩] 91)) := Kept.alloc _ _ _
        have htp : TB Θw B N' (w3.alloc (.cells #[.string ks, .string ⟨#[]⟩] 91)) w3.heap.size 1 1 := TB.lit1 (Θ := Θw) (kd := 1) (vs := [.string ks, .string ⟨#[]⟩]) HGX3.out.lt (by decide) ⟨⟨_, rfl, hks⟩, ⟨_, rfl, by decide⟩, trivial⟩
        obtain ⟨w4, hw4⟩ : ∃ z, z = w3.alloc (.cells #[.string ks, .string ⟨#[]⟩] 91) := ⟨_, rfl⟩
        obtain ⟨pb, hpb⟩ : ∃ z, z = w3.heap.size := ⟨_, rfl⟩
        rw [← hw4] at hkp htp
        rw [← hpb] at htp
        have HW4 := Lib.hid hw4
        have HPN := Lib.hid hpb
        have hkq : All w4 (w4.alloc (.cells #[.string ⟨#[105, 110, 115, 116]⟩, .string ⟨#[108, 97, 98]⟩, .string ⟨#[117, 110, 105]⟩] 9)) := Kept.alloc _ _ _
        have htq : TB Θw B N' (w4.alloc (.cells #[.string ⟨#[105, 110, 115, 116]⟩, .string ⟨#[108, 97, 98]⟩, .string ⟨#[117, 110, 105]⟩] 9)) w4.heap.size 0 3 := TB.litN (Θ := Θw) (kd := 0) (f := .s) (vs := [.string ⟨#[105, 110, 115, 116]⟩, .string ⟨#[108, 97, 98]⟩, .string ⟨#[117, 110, 105]⟩]) (Nat.le_trans HGX3.out.lt hkp.size) rfl rfl ⟨⟨_, rfl, by decide⟩, ⟨_, rfl, by decide⟩, ⟨_, rfl, by decide⟩, trivial⟩
        obtain ⟨w5, hw5⟩ : ∃ z, z = w4.alloc (.cells #[.string ⟨#[105, 110, 115, 116]⟩, .string ⟨#[108, 97, 98]⟩, .string ⟨#[117, 110, 105]⟩] 9) := ⟨_, rfl⟩
        obtain ⟨qb, hqb⟩ : ∃ z, z = w4.heap.size := ⟨_, rfl⟩
        rw [← hw5] at hkq htq
        rw [← hqb] at htq
        have HW5 := Lib.hid hw5
        have HQN := Lib.hid hqb
        have HTQ := Lib.hid htq
        have HTP := Lib.hid ((Goes.all hkq).tb _ _ _ htp)
        have HGX5 := Lib.hid (HGX3.out.alls hσ (hkp.trans hkq))
        have HGO5 := Lib.hid (HGO3.out.trans (Goes.all (hkp.trans hkq)))
        have HWB5 := Lib.hid ((Goes.all (Θ := Θw) (N := N') (hkp.trans hkq)).tb _ _ _ HWB3.out)
        clear hkp htp hw4 hpb hkq htq hw5 hqb HWB3 HGX3 HGO3
        obtain ⟨mi, hmi, hmi2, hmi3⟩ : ∃ mi : Nat, min (k : Int) 2 = (mi : Int) ∧ mi ≤ 2 ∧ (mi : Int) ≤ 3 := by
          by_cases h : k ≤ 2
          · exact ⟨k, by omega, h, by omega⟩
          · exact ⟨2, by omega, Nat.le_refl _, by omega⟩
        go_upto_region 7 with fail
        simp only [← HPN.out, ← HW4.out]
        go_upto_region 8 with fail
        simp only [← HQN.out, ← HW5.out]
        go_cut [38] (fun t wx => ∃ (b : Bool) (m : Nat), t = .bool b ∧ GenX σ B N N' n (10 * k + 6) w0 wx m ∧ Goes Θw B N' w5 N' wx)
        case first =>
          have hst5 := HGX5.out.st
          have hhi5 := HGX5.out.hi
          by_cases h3 : k < 3
          case neg =>
            have hd3 : decide ((k : Int) < 3) = false := by simp; omega
            go_wp2_with fail
            go_meet
            exact ⟨false, m3, rfl, HGX5.out.up (by omega), Goes.refl _ _ _ _⟩
          have hd3 : decide ((k : Int) < 3) = true := by simp; omega
          go_wp2_with fail
          refine (flip_any σ m3 2 _ hst5 (by omega) (by omega) (by omega)).mono ?_
          rintro e w6 ⟨v, m6, rfl, ⟨b, rfl⟩, hA6, hB6, hs6, hb6⟩
          have HGX6 := Lib.hid (HGX5.out.call hσ hb6 hs6 hA6 hB6)
          have HG56 := Lib.hid (Goes.but (Θ := Θw) (N := N') hb6 hσ)
          clear hb6 hs6 hst5
          go_wp2_with fail
          go_meet
          exact ⟨b, m6, rfl, HGX6.out.up (by omega), HG56.out⟩
        case rest =>
        obtain ⟨b8, m6, rfl, hgx6, hg56⟩ := hcut
        obtain ⟨w6, rfl⟩ : ∃ z : World, z = wc := ⟨_, rfl⟩
        have HGX6 := Lib.hid hgx6
        have HG56 := Lib.hid hg56
        clear hgx6 hg56
        go_upto_if 38 with fail
        go_cut [] (fun wx => ∃ (m : Nat), GenX σ B N N' n (10 * k + 8) w0 wx m ∧ Goes Θw B N' w5 N' wx)
        case first =>
          cases b8 with
          | false =>
            go_wp2_with fail
            go_meet
            exact ⟨m6, HGX6.out.up (by omega), HG56.out⟩
          | true =>
            have hst6 := HGX6.out.st
            have hhi6 := HGX6.out.hi
            go_wp2_with fail
            refine (next_any σ m6 ((3 - mi : Nat) : Int) _ hst6 (by omega) (by omega) (by omega)).mono ?_
            rintro e w7 ⟨v, m7, rfl, ⟨r, rfl, hr1, hr2⟩, hA7, hB7, hs7, hb7⟩
            obtain ⟨ri, rfl⟩ := Int.eq_ofNat_of_zero_le hr1
            have HGX7 := Lib.hid (HGX6.out.call hσ hb7 hs7 hA7 hB7)
            have HG57 := Lib.hid (HG56.out.trans (Goes.but (Θ := Θw) (N := N') hb7 hσ))
            clear hb7 hs7 hst6
            obtain ⟨rs, c7, hrs⟩ := (HG57.out.tb _ _ _ HTQ.out).ldS (i := mi + ri) (j := 0) (o := mi + ri) (by omega) rfl (by show mi + ri = (mi + ri) * 1 + 0; omega)
            have HP7 := Lib.hid (HG57.out.tb _ _ _ HTP.out)
            obtain ⟨s8, c8, -⟩ := HP7.out.ldS (i := 0) (j := 1) (o := 1) (by decide) rfl (by decide)
            have z8 := HP7.out.fz 1
            obtain ⟨hks7, hset7⟩ := HP7.out.put (j := 1) (f := .s) (u := .string rs) rfl ⟨_, rfl, hrs⟩
            have HF := Lib.hid (HGX7.out.go hσ hks7 hset7)
            have HS := Lib.hid (HG57.out.trans hset7)
            clear hks7 hset7
            go_wp2_with fail
            go_meet
            exact ⟨m7, HF.out.up (by omega), HS.out⟩
        case rest =>
          obtain ⟨m8, hgx8, hg58⟩ := hcut
          have hgo8 := HGO5.out.trans hg58
          obtain ⟨w8, rfl⟩ : ∃ z : World, z = wc := ⟨_, rfl⟩
          have HGX8 := Lib.hid hgx8
          have HGO8 := Lib.hid hgo8
          have HWB8 := Lib.hid (hg58.tb _ _ _ HWB5.out)
          have HP8 := Lib.hid (hg58.tb _ _ _ HTP.out)
          clear hgx8 hgo8 hg58
          obtain ⟨sa, e0, hsa⟩ := HP8.out.ldS (i := 0) (j := 0) (o := 0) (by decide) rfl (by decide)
          obtain ⟨sb, e1, hsb⟩ := HP8.out.ldS (i := 0) (j := 1) (o := 1) (by decide) rfl (by decide)
          obtain ⟨pa, pn, pc, f0, hpn, hpg⟩ := HWB8.out.ldL (i := 0) (j := 0) (o := 0) (by decide) rfl (by decide)
          have HPG := Lib.hid hpg
          have HUP := Lib.hid (show Nb (up N' 1) (k + 1) 0 from HNB.out.up (by decide) (by decide))
          have HRM := Lib.hid (show pn + 1 ≤ up N' 1 1 ∧ up N' 1 1 ≤ 1000000000 from by rw [up_at]; have := HNB.out 1; omega)
          clear hpg
          go_wp2_with (at_builtin; go_loud (refine wp_append_tb wOk1 (wSep 1 (by decide)) _ rfl _ _ rfl B N' pa pn pc rfl (HPG.out.goes (Goes.all (Kept.alloc _ _ _))) _ 1 [.string sa, .string sb] _ _ rfl (heap_alloc_new w8 _) ⟨⟨_, rfl, hsa⟩, ⟨_, rfl, hsb⟩, trivial⟩ (up N' 1) (fun x => up_le N' 1 x) HRM.out.1 HRM.out.2 (Nat.le_trans HGX8.out.lt (Kept.alloc (fun _ => True) w8 _).size) ?_))
          intro p9 c9 w9 hA
          have hal : All w8 (w8.alloc (.cells #[.string sa, .string sb] 91)) := Kept.alloc _ _ _
          have hg89 : Goes Θw B N' w8 (up N' 1) w9 := (Goes.all hal).trans hA.goes
          have hk89 : Kept (fun x => x < B) w8 w9 := (hal.mono (fun _ _ => trivial)).trans2 (hA.low (HPG.out.goes (Goes.all hal))) (fun _ _ hx => hx)
          have HWB9 := Lib.hid (hg89.tb _ _ _ HWB8.out)
          obtain ⟨a9, n9, q9, d9, -, -⟩ := HWB9.out.ldL (i := 0) (j := 0) (o := 0) (by decide) rfl (by decide)
          have z9 := HWB9.out.fz 0
          obtain ⟨hks9, hset9⟩ := HWB9.out.put (j := 0) (f := .sl 1) (u := .slice p9 (pn + 1) c9) rfl hA.gd
          have HF := Lib.hid ((HGX8.out.go hσ hk89 hg89).go hσ hks9 hset9)
          have HS := Lib.hid ((HGO8.out.trans hg89).trans hset9)
          clear hal hg89 hk89 hks9 hset9 hA e0 e1 f0
          go_wp2_with fail
          go_roundw
          case rel => exact ⟨k + 1, up N' 1, m8, by omega, by go_num, HUP.out, HF.out.up (by omega), HS.out⟩
          case measure => simp [intOf]; omega
  case rest =>
    obtain ⟨N1, m1, hnb1, hgen1, hgo1⟩ := hcut
    obtain ⟨wA, rfl⟩ : ∃ z : World, z = wc := ⟨_, rfl⟩
    have HNB1 := Lib.hid hnb1
    have HGX := Lib.hid hgen1
    have HWBA := Lib.hid (hgo1.tb _ _ _ HWB2.out)
    have HRBA := Lib.hid (hgo1.tb _ _ _ HRB2.out)
    clear hnb1 hgen1 hgo1 HWB2 HRB2 HLB HGX2
    obtain ⟨pa, pn, pc, f0, hpn, hpg⟩ := HWBA.out.ldL (i := 0) (j := 0) (o := 0) (by decide) rfl (by decide)
    have HPGA := Lib.hid hpg
    have HNS := Lib.hid (show wb ≠ σ.b by have := HWBA.out.low; omega)
    clear hpg
    go_upto_block 2 with fail
    have HPN := Lib.hid (show pn ≤ 12 by have := HNB1.out 1; omega)
    go_cut [] (fun wx => ∃ (m : Nat), GenX σ B N N1 n 3000 w0 wx m ∧ Goes Θw B N1 wA N1 wx)
    case first =>
      go_wp2_with fail
      go_loopw [57] (fun i wr => ∃ (k m : Nat), k ≤ pn ∧ i = .int .i64 k ∧ GenX σ B N N1 n (100 + 200 * k) w0 wr m ∧ Goes Θw B N1 wA N1 wr ∧ wr.cell? ⟨wb, 0, none⟩ = some (.slice pa pn pc)) (fun i _ => pn - (intOf i).toNat)
      case atStart => exact ⟨0, m1, Nat.zero_le _, rfl, HGX.out, Goes.refl _ _ _ _, f0⟩
      case round =>
        obtain ⟨k, m, hk, rfl, hgen, hgoes, hc0⟩ := hrel
        obtain ⟨wo, rfl⟩ : ∃ z : World, z = wr := ⟨_, rfl⟩
        have HGY := Lib.hid hgen
        have HGO := Lib.hid hgoes
        have HC0 := Lib.hid hc0
        have HWB := Lib.hid (hgoes.tb _ _ _ HWBA.out)
        have HPG := Lib.hid (HPGA.out.goes hgoes)
        clear hgen hgoes hc0
        by_cases hlt : k < pn
        case neg =>
          have hd : decide ((k : Int) < (pn : Int)) = false := by simp; omega
          go_wp2_with fail
          go_meet
          exact ⟨m, HGY.out.up (by have := HPN.out; omega), HGO.out⟩
        have hd : decide ((k : Int) < (pn : Int)) = true := by simp; omega
        obtain ⟨a', n', c', e, hpN, hpc, hq⟩ := HPG.out.slice
        cases e
        obtain ⟨pg, rfl, htb⟩ := hq (by omega)
        have HPB := Lib.hid htb
        have hkc : k < pc := by omega
        have HNE := Lib.hid (HPB.out.notSame HWB.out (by decide))
        have hpl : pn ≤ 1000 := by have := HNB1.out 1; omega
        have hst := HGY.out.st
        have hmb := HGY.out.hi
        have HST := Lib.hid hst
        have HLT := Lib.hid HGY.out.lt
        have q1 : (0 : Int) ≤ (k : Int) := by omega
        have q2 : (k : Int) < (pn : Int) := by omega
        clear hst hq htb
        go_upto_region 15 with fail
        refine wp_region_ty 9 (by kernel_rfl) (by kernel_rfl) (RT Θw σ B N1 N1 (fun w => w.cell? ⟨wb, 0, none⟩ = some (.slice (some ⟨pg, 0, none⟩) pn pc)) wo m 999 999)
          (DL [QIs (.pointer (some ⟨wb, 0, none⟩)), QIs (.slice (some ⟨pg, 0, none⟩) pn pc), QIs (.pointer (some ⟨wb, 0, none⟩)), QIs (.slice (some ⟨pg, 0, none⟩) pn pc), QIs (.int .i64 (k : Int)), QIs (.pointer (some ⟨pg, k * 2, none⟩)), QIs (.pointer (some ⟨pg, k * 2 + 1, none⟩)), PG Θw B N1 .s, PIn]) (fun w w' => Goes Θw B N1 w N1 w')
          (DL.keep (by simp only [List.forall_mem_cons, List.not_mem_nil, false_implies, implies_true, and_true]; exact ⟨QIs.stays' _, QIs.stays' _, QIs.stays' _, QIs.stays' _, QIs.stays' _, QIs.stays' _, QIs.stays' _, PG.stays _, PIn.stays⟩)) ?_ ?_ ?_
        · exact ⟨⟨m, HST.out.keep (Kept.drew _ _), Nat.le_refl _, by omega⟩, Kept.drew _ _, HLT.out, by rw [if_neg (by decide)]; exact Goes.all (Kept.drew _ _), fun h => (by cases h), (Kept.drew (fun _ => True) _).cell HC0.out trivial⟩
        · intro i o ho hi kq L a' wx hkq hrt hL hdf hts hoth hld hdeps
          have hkz : kq < 9 := hkq
          have hz : i = 0 ∨ i = 1 ∨ i = 2 ∨ i = 3 ∨ i = 4 ∨ i = 5 ∨ i = 6 ∨ i = 7 ∨ i = 8 := by have : i < 9 := hi; omega
          rcases hz with rfl | rfl | rfl | rfl | rfl | rfl | rfl | rfl | rfl
          · obtain rfl := Option.some.inj ho
            have e : a'.tmps.getD 5 undef = .pointer (some ⟨wb, 0, none⟩) := tmp_of ((hoth 5 (by decide)).trans rfl)
            clear hoth hdeps hdf hts ho hld
            refine wp_via (fun K' hK => ?_)
            have HK := Lib.hid hK
            clear hK
            go_simp
            exact HK.out _ _ ⟨_, rfl, hrt.same (by decide), Goes.refl _ _ _ _, fun _ => rfl⟩
          · obtain rfl := Option.some.inj ho
            have e : a'.tmps.getD 60 undef = .pointer (some ⟨wb, 0, none⟩) := hdeps 0 (by decide) 60 rfl
            have c0 := hrt.ex
            clear hoth hdeps hdf hts ho hld
            refine wp_via (fun K' hK => ?_)
            have HK := Lib.hid hK
            clear hK
            go_simp
            exact HK.out _ _ ⟨_, rfl, hrt.same (by decide), Goes.refl _ _ _ _, fun _ => rfl⟩
          · obtain rfl := Option.some.inj ho
            have e : a'.tmps.getD 5 undef = .pointer (some ⟨wb, 0, none⟩) := tmp_of ((hoth 5 (by decide)).trans rfl)
            clear hoth hdeps hdf hts ho hld
            refine wp_via (fun K' hK => ?_)
            have HK := Lib.hid hK
            clear hK
            go_simp
            exact HK.out _ _ ⟨_, rfl, hrt.same (by decide), Goes.refl _ _ _ _, fun _ => rfl⟩
          · obtain rfl := Option.some.inj ho
            have e : a'.tmps.getD 62 undef = .pointer (some ⟨wb, 0, none⟩) := hdeps 2 (by decide) 62 rfl
            have c0 := hrt.ex
            clear hoth hdeps hdf hts ho hld
            refine wp_via (fun K' hK => ?_)
            have HK := Lib.hid hK
            clear hK
            go_simp
            exact HK.out _ _ ⟨_, rfl, hrt.same (by decide), Goes.refl _ _ _ _, fun _ => rfl⟩
          · obtain rfl := Option.some.inj ho
            have e : a'.tmps.getD 10 undef = .int .i64 (k : Int) := tmp_of ((hoth 10 (by decide)).trans rfl)
            clear hoth hdeps hdf hts ho hld
            refine wp_via (fun K' hK => ?_)
            have HK := Lib.hid hK
            clear hK
            go_simp
            exact HK.out _ _ ⟨_, rfl, hrt.same (by decide), Goes.refl _ _ _ _, fun _ => rfl⟩
          · obtain rfl := Option.some.inj ho
            have e : a'.tmps.getD 63 undef = .slice (some ⟨pg, 0, none⟩) pn pc := hdeps 3 (by decide) 63 rfl
            have x : a'.tmps.getD 64 undef = .int .i64 (k : Int) := hdeps 4 (by decide) 64 rfl
            clear hoth hdeps hdf hts ho hld
            refine wp_via (fun K' hK => ?_)
            have HK := Lib.hid hK
            clear hK
            go_simp
            exact HK.out _ _ ⟨_, rfl, hrt.same (by decide), Goes.refl _ _ _ _, fun _ => rfl⟩
          · obtain rfl := Option.some.inj ho
            have e : a'.tmps.getD 65 undef = .pointer (some ⟨pg, k * 2, none⟩) := hdeps 5 (by decide) 65 rfl
            clear hoth hdeps hdf hts ho hld
            refine wp_via (fun K' hK => ?_)
            have HK := Lib.hid hK
            clear hK
            go_simp
            exact HK.out _ _ ⟨_, rfl, hrt.same (by decide), Goes.refl _ _ _ _, fun _ => rfl⟩
          · obtain rfl := Option.some.inj ho
            have e : a'.tmps.getD 66 undef = .pointer (some ⟨pg, k * 2 + 1, none⟩) := hdeps 6 (by decide) 66 rfl
            obtain ⟨s0, c0, z0⟩ := ((hrt.goes (fun _ => Nat.le_refl _)).tb _ _ _ HPB.out).ldS (i := k) (j := 1) (o := k * 2 + 1) hkc rfl (rfl)
            clear hoth hdeps hdf hts ho hld
            refine wp_via (fun K' hK => ?_)
            have HK := Lib.hid hK
            clear hK
            go_simp
            exact HK.out _ _ ⟨_, rfl, hrt.same (by decide), Goes.refl _ _ _ _, fun _ => ⟨_, rfl, z0⟩⟩
          · obtain rfl := Option.some.inj ho
            have e0 : a'.tmps.getD 61 undef = .slice (some ⟨pg, 0, none⟩) pn pc := hdeps 1 (by decide) 61 rfl
            obtain ⟨e1s, e1, e1z⟩ : ∃ s : ByteArray, a'.tmps.getD 67 undef = .string s ∧ s.size ≤ 200 := hdeps 7 (by decide) 67 rfl
            clear hoth hdeps hdf hts ho hld
            refine wp_via (fun K' hK => ?_)
            have HK := Lib.hid hK
            clear hK
            go_simp
            refine (placeAtT_any ((HPG.out).goes (hrt.goes (fun _ => Nat.le_refl _))) (by omega)).mono ?_
            rintro e w2 ⟨⟨z, rfl⟩, hk2⟩
            exact HK.out _ _ ⟨_, rfl, hrt.all (by decide) hk2 hσ (hk2.cell hrt.ex trivial), Goes.all hk2, fun _ => ⟨z, rfl⟩⟩
        · intro L wx f hrt hdl
          obtain ⟨pzi, pz⟩ : ∃ z : Int, f 68 = .int .i64 z := hdl 8 68 (by decide) rfl
          rw [show dsts _ _ = [60, 61, 62, 63, 64, 65, 66, 67, 68] from by kernel_rfl]
          simp only [List.map_cons, List.map_nil, puts, Act.put, pz]
          generalize f 60 = f60
          generalize f 61 = f61
          generalize f 62 = f62
          generalize f 63 = f63
          generalize f 64 = f64
          generalize f 65 = f65
          generalize f 66 = f66
          generalize f 67 = f67
          simp only [List.setIfInBounds_toArray, List.set_cons_zero, List.set_cons_succ]
          clear hdl pz f
          obtain ⟨mz, hstz, hmz1, hmz2⟩ := hrt.st
          have hgoz := Lib.hid (hrt.goes (fun _ => Nat.le_refl _))
          have hkpz := Lib.hid hrt.kp
          have hltz := Lib.hid hrt.lt
          have hstz := Lib.hid hstz
          have hexz := Lib.hid hrt.ex
          clear hrt
          have HGZ := Lib.hid (show GenX σ B N N1 n (100 + 200 * k + 100) w0 wx mz from ⟨hstz.out, by have := HGY.out.lo; omega, by have := HGY.out.hi; omega, HGY.out.kp.trans hkpz.out, HGY.out.goes.trans hgoz.out, hltz.out⟩)
          have HPB2 := Lib.hid (hgoz.out.tb _ _ _ HPB.out)
          have HGO2 := Lib.hid (HGO.out.trans hgoz.out)
          clear hkpz hltz hstz hmz1 hmz2
          by_cases hz : pzi < 0
          · have hd2 : decide (pzi < 0) = true := by simp; omega
            obtain ⟨s2, c2, -⟩ := HPB2.out.ldS (i := k) (j := 1) (o := k * 2 + 1) hkc rfl rfl
            have z2 := HPB2.out.fz (k * 2 + 1)
            have c3 := hexz.out
            obtain ⟨hks, hset⟩ := HPB2.out.put (j := k * 2 + 1) (f := .s) (u := .string ⟨#[]⟩) (by rw [show (k * 2 + 1) % Θw.sz 1 = 1 from by show (k * 2 + 1) % 2 = 1; omega]; rfl) ⟨_, rfl, by decide⟩
            have HF := Lib.hid (HGZ.out.go hσ hks hset)
            have HS := Lib.hid (HGO2.out.trans hset)
            have HC := Lib.hid (show (wx.setCell ⟨pg, k * 2 + 1, none⟩ (.string ⟨#[]⟩)).cell? ⟨wb, 0, none⟩ = some (.slice (some ⟨pg, 0, none⟩) pn pc) from (show Kept (fun b => b ≠ pg) wx (wx.setCell ⟨pg, k * 2 + 1, none⟩ (.string ⟨#[]⟩)) from Kept.setCell _ _ _ (fun h => h rfl)).cell c3 (Ne.symm HNE.out))
            clear hks hset
            go_wp2_with fail
            go_roundw
            case rel => exact ⟨k + 1, mz, by omega, by go_num, HF.out.up (by omega), HS.out, HC.out⟩
            case measure => simp [intOf]; omega
          · have hd2 : decide (pzi < 0) = false := by simp; omega
            go_wp2_with fail
            go_roundw
            case rel => exact ⟨k + 1, mz, by omega, by go_num, HGZ.out.up (by omega), HGO2.out, hexz.out⟩
            case measure => simp [intOf]; omega

    case rest =>
    obtain ⟨m2, hgen2, hgo2⟩ := hcut
    obtain ⟨wB, rfl⟩ : ∃ z : World, z = wc := ⟨_, rfl⟩
    have hkk : All wB (wB.alloc (.cells #[.string ⟨#[97, 110, 110]⟩, .string ⟨#[98, 111, 98]⟩, .string ⟨#[99, 105, 100]⟩, .string ⟨#[100, 101, 101]⟩, .string ⟨#[101, 118, 101]⟩, .string ⟨#[102, 97, 121]⟩, .string ⟨#[103, 117, 115]⟩] 9)) := Kept.alloc _ _ _
    have hkb := heap_at wB (.cells #[.string ⟨#[97, 110, 110]⟩, .string ⟨#[98, 111, 98]⟩, .string ⟨#[99, 105, 100]⟩, .string ⟨#[100, 101, 101]⟩, .string ⟨#[101, 118, 101]⟩, .string ⟨#[102, 97, 121]⟩, .string ⟨#[103, 117, 115]⟩] 9) _ rfl
    obtain ⟨wC, hwC⟩ : ∃ z, z = wB.alloc (.cells #[.string ⟨#[97, 110, 110]⟩, .string ⟨#[98, 111, 98]⟩, .string ⟨#[99, 105, 100]⟩, .string ⟨#[100, 101, 101]⟩, .string ⟨#[101, 118, 101]⟩, .string ⟨#[102, 97, 121]⟩, .string ⟨#[103, 117, 115]⟩] 9) := ⟨_, rfl⟩
    obtain ⟨kb, hkbn⟩ : ∃ z, z = wB.heap.size := ⟨_, rfl⟩
    rw [← hwC] at hkk hkb
    rw [← hkbn] at hkb
    have HWC := Lib.hid hwC
    have HKN := Lib.hid hkbn
    have HKB := Lib.hid (show wC.heap[kb]? = some (.cells ks0 9) from hkb)
    have HGXC := Lib.hid (hgen2.alls hσ hkk)
    have HWBC := Lib.hid ((hgo2.trans (Goes.all hkk)).tb _ _ _ HWBA.out)
    have HRBC := Lib.hid ((hgo2.trans (Goes.all hkk)).tb _ _ _ HRBA.out)
    have HKS := Lib.hid (show kb ≠ σ.b by have := hgen2.lt; omega)
    have HKL := Lib.hid (show B ≤ kb by have := hgen2.lt; omega)
    clear hgen2 hgo2 HWBA HRBA HPGA f0 hkk hkb hwC hkbn HGX
    obtain ⟨kn, hkn, hkn7⟩ : ∃ kn : Nat, min (pp : Int) 7 = (kn : Int) ∧ kn ≤ 7 := ⟨min pp 7, by omega, by omega⟩
    go_upto_block 4 with fail
    simp only [← HKN.out, ← HWC.out]
    go_cut [] (fun wx => ∃ (N' : Nat → Nat) (m : Nat), Nb N' 32 0 ∧ GenX σ B N N' n 20000 w0 wx m ∧ Goes Θw B N1 wC N' wx ∧ wx.heap[kb]? = some (.cells ks0 9))
    case first =>
      refine rw_loop3 σ n B N N1 pp m2 w0 wC rb wb lb kb kn pa pn pc hn h7 hσ HG0 HNB1 HKB HGXC HWBC HKS hkn7 _ _ _ _ _ _ _ _ _ _ _ _ _ _ _ _ _ _ _ _ _ _ _ _ _ _ _ _ _ _ _ _ _ _ _ _ _ _ _ _ _ _ _ _ _ _ _ _ _ _ _ _ _ _ _ _ _ _ ?J _ _ ?hM ?hJ
      case hM => assumption
      case hJ => assumption
    case rest =>
      obtain ⟨N3, m3, hnb3, hgen3, hgo3, hkb3⟩ := hcut
      obtain ⟨wE, rfl⟩ : ∃ z : World, z = wc := ⟨_, rfl⟩
      have HNB3 := Lib.hid hnb3
      have HGXE := Lib.hid hgen3
      have HWBE := Lib.hid (hgo3.tb _ _ _ HWBC.out)
      have HRBE := Lib.hid (hgo3.tb _ _ _ HRBC.out)
      have HKBE := Lib.hid (show TB Θw B N3 wE kb 0 7 from keysTB hkb3 HKL.out)
      clear hnb3 hgen3 hgo3 hkb3 HWBC HRBC
      by_cases hk2 : kn < 2
      case pos =>
        have hd2 : decide ((kn : Int) < 2) = true := by simp; omega
        obtain ⟨v0, y0, t0, v1, y1, t1, v2, y2, t2, v3, y3, t3, f0, f1, f2, f3, g0, g1, g2, g3⟩ := HWBE.out.wld (by decide)
        obtain ⟨b0, o0, p0, b1, o1, p1, b2, o2, p2, b3, o3, p3, r0, r1, r2, r3, -⟩ := HRBE.out.wld (by decide)
        have z0 := HRBE.out.fz 0
        have z1 := HRBE.out.fz 1
        have z2 := HRBE.out.fz 2
        have z3 := HRBE.out.fz 3
        obtain ⟨hwg, hff, q0', q1', q2', q3'⟩ := wldFin HRBE.out g0 g1 g2 g3
        have HWG := Lib.hid hwg
        have HFF := Lib.hid (HGXE.out.fin hff (c' := 100000) HRBE.out.low hσ (by omega))
        have HNF := Lib.hid (show ∀ x, 8 ≤ N3 x ∧ N3 x ≤ 100 from fun x => by have := HNB3.out x; omega)
        clear g0 g1 g2 g3 hwg hff
        go_wp2_with fail
        refine bodyPost_ret (v := .agg #[.slice v0 y0 t0, .slice v1 y1 t1, .slice v2 y2 t2, .slice v3 y3 t3]) ?_ rfl ⟨_, _, N3, rfl, HWG.out, HFF.out, HNF.out⟩
        simp [results, Tryz.results57, go_sem, q0', q1', q2', q3']
      have hd2 : decide ((kn : Int) < 2) = false := by simp; omega
      have hst := HGXE.out.st
      have hhi := HGXE.out.hi
      go_wp2_with fail
      refine (range_any σ m3 0 4 _ hst (by omega) (by decide) (by decide) (by decide)).mono ?_
      rintro e wF ⟨v, mF, rfl, ⟨r, rfl, hc1, hc2⟩, hA8, hB8, hs8, hb8⟩
      obtain ⟨cn, rfl⟩ := Int.eq_ofNat_of_zero_le hc1
      have HGXF := Lib.hid (HGXE.out.call hσ hb8 hs8 hA8 hB8)
      have HWBF := Lib.hid ((Goes.but (Θ := Θw) (N := N3) hb8 hσ).tb _ _ _ HWBE.out)
      have HRBF := Lib.hid ((Goes.but (Θ := Θw) (N := N3) hb8 hσ).tb _ _ _ HRBE.out)
      have HKBF := Lib.hid ((Goes.but (Θ := Θw) (N := N3) hb8 hσ).tb _ _ _ HKBE.out)
      clear hst hhi hs8 hb8 hA8 hB8 HGXE HWBE HRBE HKBE hd2
      go_upto_block 8 with fail
      go_cut [] (fun wx => ∃ (N' : Nat → Nat) (m : Nat), Nb N' 36 4 ∧ GenX σ B N N' n 22000 w0 wx m ∧ Goes Θw B N3 wF N' wx)
      case first =>
        go_wp2_with fail
        go_loopw [196] (fun i wr => ∃ (k : Nat) (N' : Nat → Nat) (m : Nat), k ≤ cn ∧ i = .int .i64 k ∧ Nb N' (32 + k) k ∧ GenX σ B N N' n (20010 + 300 * k) w0 wr m ∧ Goes Θw B N3 wF N' wr) (fun i _ => cn - (intOf i).toNat)
        case atStart => exact ⟨0, N3, mF, Nat.zero_le _, rfl, HNB3.out, HGXF.out.up (by omega), Goes.refl _ _ _ _⟩
        case round =>
          obtain ⟨k, N', m, hk, rfl, hnb, hgen, hgoes⟩ := hrel
          obtain ⟨wo, rfl⟩ : ∃ z : World, z = wr := ⟨_, rfl⟩
          have HNB := Lib.hid hnb
          have HGY := Lib.hid hgen
          have HGO := Lib.hid hgoes
          clear hnb hgen hgoes
          by_cases hlt : k < cn
          case neg =>
            have hd : decide ((k : Int) < (cn : Int)) = false := by simp; omega
            go_wp2_with fail
            go_meet
            exact ⟨N', m, HNB.out.mono (by omega) (by omega), HGY.out.up (by omega), HGO.out⟩
          have hd : decide ((k : Int) < (cn : Int)) = true := by simp; omega
          have hst := HGY.out.st
          have hhi := HGY.out.hi
          go_wp2_with fail
          refine (next_any σ m (kn : Int) _ hst (by omega) (by omega) (by omega)).mono ?_
          rintro e wp ⟨v, mp, rfl, ⟨r, rfl, hr1, hr2⟩, hA8, hB8, hs8, hb8⟩
          obtain ⟨ri, rfl⟩ := Int.eq_ofNat_of_zero_le hr1
          have HGP := Lib.hid (HGY.out.call hσ hb8 hs8 hA8 hB8)
          have HGOP := Lib.hid (HGO.out.trans (Goes.but hb8 hσ))
          clear hst hhi hs8 hb8 HGY HGO hA8 hB8
          have hst := HGP.out.st
          have hhi := HGP.out.hi
          go_wp2_with fail
          refine (next_any σ mp (kn : Int) _ hst (by omega) (by omega) (by omega)).mono ?_
          rintro e wq ⟨v, mq, rfl, ⟨r, rfl, hr3, hr4⟩, hA8, hB8, hs8, hb8⟩
          obtain ⟨rj, rfl⟩ := Int.eq_ofNat_of_zero_le hr3
          have HGQ := Lib.hid (HGP.out.call hσ hb8 hs8 hA8 hB8)
          have HGOQ := Lib.hid (HGOP.out.trans (Goes.but hb8 hσ))
          clear hst hhi hs8 hb8 HGP HGOP hA8 hB8
          have hst := HGQ.out.st
          have hhi := HGQ.out.hi
          go_upto_if 208 with fail
          go_cut [16, 17] (fun t u wx => ∃ x y : Nat, t = .int .i64 x ∧ u = .int .i64 y ∧ x < kn ∧ y < kn ∧ GenX σ B N N' n (20010 + 300 * k + 20) w0 wx mq ∧ Goes Θw B N3 wF N' wx)
          case first =>
            by_cases hgt : rj < ri
            · have hd8 : decide ((rj : Int) < (ri : Int)) = true := by simp; omega
              go_wp2_with fail
              go_meet
              exact ⟨rj, ri, rfl, rfl, by omega, by omega, HGQ.out.up (by omega), HGOQ.out⟩
            · have hd8 : decide ((rj : Int) < (ri : Int)) = false := by simp; omega
              go_wp2_with fail
              go_meet
              exact ⟨ri, rj, rfl, rfl, by omega, by omega, HGQ.out.up (by omega), HGOQ.out⟩
          case rest =>
          obtain ⟨x, y, rfl, rfl, hx, hy, hgen, hgoes⟩ := hcut
          obtain ⟨ws, rfl⟩ : ∃ z : World, z = wc := ⟨_, rfl⟩
          clear HGQ HGOQ hst hhi hr1 hr2 hr3 hr4
          have HGQ := Lib.hid hgen
          have HGOQ := Lib.hid hgoes
          clear hgen hgoes
          by_cases hxy : x = y
          · subst hxy
            go_wp2_with fail
            go_roundw
            case rel => exact ⟨k + 1, N', mq, by omega, by go_num, HNB.out.mono (by omega) (by omega), HGQ.out.up (by omega), HGOQ.out⟩
            case measure => simp [intOf]; omega
          have he1 : ((x : Int) == (y : Int)) = false := by rw [beq_eq_false_iff_ne]; omega
          have he2 : decide ((x : Int) = (y : Int)) = false := by simp; omega
          have he3 : decide (x = y) = false := by simp; omega
          clear hxy
          have hst := HGQ.out.st
          have hhi := HGQ.out.hi
          go_wp2_with fail
          refine (flip_any σ mq 2 _ hst (by omega) (by omega) (by omega)).mono ?_
          rintro e wt ⟨v, mt, rfl, ⟨b, rfl⟩, hA8, hB8, hs8, hb8⟩
          have HGT := Lib.hid (HGQ.out.call hσ hb8 hs8 hA8 hB8)
          have HGOT := Lib.hid (HGOQ.out.trans (Goes.but hb8 hσ))
          have HWBT := Lib.hid (HGOT.out.tb _ _ _ HWBF.out)
          have HKBT := Lib.hid (HGOT.out.tb _ _ _ HKBF.out)
          have HST := Lib.hid hs8
          have HLT := Lib.hid HGT.out.lt
          clear hst hhi hs8 hb8 HGQ HGOQ
          have hhi8 := HGT.out.hi
          have hx7 : x < 7 := by omega
          have hy7 : y < 7 := by omega
          have hx1 : (0 : Int) ≤ (x : Int) := by omega
          have hx2 : (x : Int) < (kn : Int) := by omega
          have hy1 : (0 : Int) ≤ (y : Int) := by omega
          have hy2 : (y : Int) < (kn : Int) := by omega
          cases b with
          | true =>
            have hloS : ∀ x, 8 ≤ (up N' 6) x := fun x => Nat.le_trans (HNB.out x).1 (up_le N' _ x)
            have hhiS : ∀ x, (up N' 6) x ≤ 1000 := fun x => by have := up_lt N' 6 x; have := HNB.out x; omega
            go_upto_region 48 with fail
            refine wp_region_ty 18 (by kernel_rfl) (by kernel_rfl) (RT Θw σ B N' (up N' 6) (fun _ => True) wt mt 16 1)
              (DL [QIs (.pointer (some ⟨wb, 2, none⟩)), PL Θw B N' (up N' 6) 6, QIs (.pointer (some ⟨σ.b, 0, none⟩)), PT Θw B (up N' 6) 9 5, PG Θw B (up N' 6) .i, QIs (.slice (some ⟨kb, 0, none⟩) kn 7), QIs (.int .i64 (x : Int)), QIs (.pointer (some ⟨kb, x, none⟩)), PG Θw B (up N' 6) .s, QIs (.slice (some ⟨kb, 0, none⟩) kn 7), QIs (.int .i64 (y : Int)), QIs (.pointer (some ⟨kb, y, none⟩)), PG Θw B (up N' 6) .s, PT Θw B (up N' 6) 0 2, PA Θw B (up N' 6) 6, PT Θw B (up N' 6) 6 1, PG Θw B (up N' 6) (.sl 6), QIs (.pointer (some ⟨wb, 2, none⟩))]) (fun w w' => Goes Θw B (up N' 6) w (up N' 6) w')
              (DL.keep (by simp only [List.forall_mem_cons, List.not_mem_nil, false_implies, implies_true, and_true]; exact ⟨QIs.stays' _, PL.stays _, QIs.stays' _, PT.stays _ _, PG.stays _, QIs.stays' _, QIs.stays' _, QIs.stays' _, PG.stays _, QIs.stays' _, QIs.stays' _, QIs.stays' _, PG.stays _, PT.stays _ _, PA.stays _, PT.stays _ _, PG.stays _, QIs.stays' _⟩)) ?_ ?_ ?_
            · exact ⟨⟨mt, HST.out.keep (Kept.drew _ _), Nat.le_refl _, by omega⟩, Kept.drew _ _, HLT.out, by rw [if_neg (by decide)]; exact Goes.all (Kept.drew _ _), fun h => (by cases h), trivial⟩
            · intro i o ho hi kq L a' wx hkq hrt hL hdf hts hoth hld hdeps
              have hkz : kq < 18 := hkq
              have hz : i = 0 ∨ i = 1 ∨ i = 2 ∨ i = 3 ∨ i = 4 ∨ i = 5 ∨ i = 6 ∨ i = 7 ∨ i = 8 ∨ i = 9 ∨ i = 10 ∨ i = 11 ∨ i = 12 ∨ i = 13 ∨ i = 14 ∨ i = 15 ∨ i = 16 ∨ i = 17 := by have : i < 18 := hi; omega
              rcases hz with rfl | rfl | rfl | rfl | rfl | rfl | rfl | rfl | rfl | rfl | rfl | rfl | rfl | rfl | rfl | rfl | rfl | rfl
              · obtain rfl := Option.some.inj ho
                have e : a'.tmps.getD 5 undef = .pointer (some ⟨wb, 0, none⟩) := tmp_of ((hoth 5 (by decide)).trans rfl)
                clear hoth hdeps hdf hts ho hld
                refine wp_via (fun K' hK => ?_)
                have HK := Lib.hid hK
                clear hK
                go_simp
                exact HK.out _ _ ⟨_, rfl, hrt.same (by decide), Goes.refl _ _ _ _, fun _ => rfl⟩
              · obtain rfl := Option.some.inj ho
                have e : a'.tmps.getD 216 undef = .pointer (some ⟨wb, 2, none⟩) := hdeps 0 (by decide) 216 rfl
                obtain ⟨a0, n0, c0', c0, z0, g0⟩ := ((hrt.old (hrt.notyet hL)).tb _ _ _ HWBT.out).ldL (i := 0) (j := 2) (o := 2) (by decide) rfl (by decide)
                clear hoth hdeps hdf hts ho hld
                refine wp_via (fun K' hK => ?_)
                have HK := Lib.hid hK
                clear hK
                go_simp
                exact HK.out _ _ ⟨_, rfl, hrt.same (by decide), Goes.refl _ _ _ _, fun _ => ⟨_, _, _, rfl, z0, Gd.goes g0 (Goes.up (fun x => up_le N' 6 x))⟩⟩
              · obtain rfl := Option.some.inj ho
                have e : a'.tmps.getD 0 undef = .pointer (some ⟨σ.b, 0, none⟩) := tmp_of ((hoth 0 (by decide)).trans rfl)
                clear hoth hdeps hdf hts ho hld
                refine wp_via (fun K' hK => ?_)
                have HK := Lib.hid hK
                clear hK
                go_simp
                exact HK.out _ _ ⟨_, rfl, hrt.same (by decide), Goes.refl _ _ _ _, fun _ => rfl⟩
              · obtain rfl := Option.some.inj ho
                clear hoth hdeps hdf hts ho hld
                refine wp_via (fun K' hK => ?_)
                have HK := Lib.hid hK
                clear hK
                go_simp
                exact HK.out _ _ ⟨_, rfl, hrt.all (by decide) (Kept.alloc _ _ _) hσ (trivial), Goes.all (Kept.alloc _ _ _), fun _ => ⟨_, rfl, TB.litN (kd := 9) (vs := [.int .i64 0, .int .i64 30, .int .i64 30, .int .i64 100, .int .i64 200]) hrt.lt rfl rfl ⟨⟨_, rfl, by decide, by decide⟩, ⟨_, rfl, by decide, by decide⟩, ⟨_, rfl, by decide, by decide⟩, ⟨_, rfl, by decide, by decide⟩, ⟨_, rfl, by decide, by decide⟩, trivial⟩⟩⟩
              · obtain rfl := Option.some.inj ho
                have e0 : a'.tmps.getD 218 undef = .pointer (some ⟨σ.b, 0, none⟩) := hdeps 2 (by decide) 218 rfl
                obtain ⟨e1b, e1, e1t⟩ : ∃ g, a'.tmps.getD 219 undef = .slice (some ⟨g, 0, none⟩) 5 5 ∧ TB Θw B (up N' 6) wx g 9 5 := hdeps 3 (by decide) 219 rfl
                obtain ⟨m, hst, hm1, hm2⟩ := hrt.st
                clear hoth hdeps hdf hts ho hld
                refine wp_via (fun K' hK => ?_)
                have HK := Lib.hid hK
                clear hK
                go_simp
                refine (pickI_any hst (by omega) hσ e1t (by decide) (by decide)).mono ?_
                rintro e w2 ⟨v, m2, rfl, ⟨r, rfl, hr⟩, hA, hB, hs2, hb2⟩
                exact HK.out _ _ ⟨_, rfl, hrt.call (by decide) hm1 hm2 hA hB (by decide) hs2 hb2 hσ (trivial), Goes.but hb2 hσ, fun _ => ⟨r, rfl, hr⟩⟩
              · obtain rfl := Option.some.inj ho
                have e : a'.tmps.getD 11 undef = .slice (some ⟨kb, 0, none⟩) kn 7 := tmp_of ((hoth 11 (by decide)).trans rfl)
                clear hoth hdeps hdf hts ho hld
                refine wp_via (fun K' hK => ?_)
                have HK := Lib.hid hK
                clear hK
                go_simp
                exact HK.out _ _ ⟨_, rfl, hrt.same (by decide), Goes.refl _ _ _ _, fun _ => rfl⟩
              · obtain rfl := Option.some.inj ho
                have e : a'.tmps.getD 16 undef = .int .i64 (x : Int) := tmp_of ((hoth 16 (by decide)).trans rfl)
                clear hoth hdeps hdf hts ho hld
                refine wp_via (fun K' hK => ?_)
                have HK := Lib.hid hK
                clear hK
                go_simp
                exact HK.out _ _ ⟨_, rfl, hrt.same (by decide), Goes.refl _ _ _ _, fun _ => rfl⟩
              · obtain rfl := Option.some.inj ho
                have e : a'.tmps.getD 221 undef = .slice (some ⟨kb, 0, none⟩) kn 7 := hdeps 5 (by decide) 221 rfl
                have x : a'.tmps.getD 222 undef = .int .i64 (x : Int) := hdeps 6 (by decide) 222 rfl
                clear hoth hdeps hdf hts ho hld
                refine wp_via (fun K' hK => ?_)
                have HK := Lib.hid hK
                clear hK
                go_simp
                exact HK.out _ _ ⟨_, rfl, hrt.same (by decide), Goes.refl _ _ _ _, fun _ => rfl⟩
              · obtain rfl := Option.some.inj ho
                have e : a'.tmps.getD 223 undef = .pointer (some ⟨kb, x, none⟩) := hdeps 7 (by decide) 223 rfl
                obtain ⟨s0, c0, z0⟩ := ((hrt.goes (fun x => up_le N' 6 x)).tb _ _ _ HKBT.out).ldS (i := x) (j := 0) (o := x) hx7 rfl (by show x = x * 1 + 0; omega)
                clear hoth hdeps hdf hts ho hld
                refine wp_via (fun K' hK => ?_)
                have HK := Lib.hid hK
                clear hK
                go_simp
                exact HK.out _ _ ⟨_, rfl, hrt.same (by decide), Goes.refl _ _ _ _, fun _ => ⟨_, rfl, z0⟩⟩
              · obtain rfl := Option.some.inj ho
                have e : a'.tmps.getD 11 undef = .slice (some ⟨kb, 0, none⟩) kn 7 := tmp_of ((hoth 11 (by decide)).trans rfl)
                clear hoth hdeps hdf hts ho hld
                refine wp_via (fun K' hK => ?_)
                have HK := Lib.hid hK
                clear hK
                go_simp
                exact HK.out _ _ ⟨_, rfl, hrt.same (by decide), Goes.refl _ _ _ _, fun _ => rfl⟩
              · obtain rfl := Option.some.inj ho
                have e : a'.tmps.getD 17 undef = .int .i64 (y : Int) := tmp_of ((hoth 17 (by decide)).trans rfl)
                clear hoth hdeps hdf hts ho hld
                refine wp_via (fun K' hK => ?_)
                have HK := Lib.hid hK
                clear hK
                go_simp
                exact HK.out _ _ ⟨_, rfl, hrt.same (by decide), Goes.refl _ _ _ _, fun _ => rfl⟩
              · obtain rfl := Option.some.inj ho
                have e : a'.tmps.getD 225 undef = .slice (some ⟨kb, 0, none⟩) kn 7 := hdeps 9 (by decide) 225 rfl
                have x : a'.tmps.getD 226 undef = .int .i64 (y : Int) := hdeps 10 (by decide) 226 rfl
                clear hoth hdeps hdf hts ho hld
                refine wp_via (fun K' hK => ?_)
                have HK := Lib.hid hK
                clear hK
                go_simp
                exact HK.out _ _ ⟨_, rfl, hrt.same (by decide), Goes.refl _ _ _ _, fun _ => rfl⟩
              · obtain rfl := Option.some.inj ho
                have e : a'.tmps.getD 227 undef = .pointer (some ⟨kb, y, none⟩) := hdeps 11 (by decide) 227 rfl
                obtain ⟨s0, c0, z0⟩ := ((hrt.goes (fun x => up_le N' 6 x)).tb _ _ _ HKBT.out).ldS (i := y) (j := 0) (o := y) hy7 rfl (by show y = y * 1 + 0; omega)
                clear hoth hdeps hdf hts ho hld
                refine wp_via (fun K' hK => ?_)
                have HK := Lib.hid hK
                clear hK
                go_simp
                exact HK.out _ _ ⟨_, rfl, hrt.same (by decide), Goes.refl _ _ _ _, fun _ => ⟨_, rfl, z0⟩⟩
              · obtain rfl := Option.some.inj ho
                obtain ⟨e0s, e0, e0z⟩ : ∃ s : ByteArray, a'.tmps.getD 224 undef = .string s ∧ s.size ≤ 200 := hdeps 8 (by decide) 224 rfl
                have e0q : a'.tmps[224]?.getD undef = .string e0s := by rw [← Array.getD_eq_getD_getElem?]; exact e0
                obtain ⟨e1s, e1, e1z⟩ : ∃ s : ByteArray, a'.tmps.getD 228 undef = .string s ∧ s.size ≤ 200 := hdeps 12 (by decide) 228 rfl
                have e1q : a'.tmps[228]?.getD undef = .string e1s := by rw [← Array.getD_eq_getD_getElem?]; exact e1
                clear hoth hdeps hdf hts ho hld
                refine wp_via (fun K' hK => ?_)
                have HK := Lib.hid hK
                clear hK
                go_simp
                exact HK.out _ _ ⟨_, rfl, hrt.all (by decide) (Kept.alloc _ _ _) hσ (trivial), Goes.all (Kept.alloc _ _ _), fun _ => ⟨_, rfl, TB.litN (kd := 0) (vs := [.string e0s, .string e1s]) hrt.lt rfl rfl ⟨⟨_, rfl, e0z⟩, ⟨_, rfl, e1z⟩, trivial⟩⟩⟩
              · obtain rfl := Option.some.inj ho
                obtain ⟨e0i, e0, e0l, e0h⟩ : ∃ z : Int, a'.tmps.getD 220 undef = .int .i64 z ∧ -2000000000000 ≤ z ∧ z ≤ 2000000000000 := hdeps 4 (by decide) 220 rfl
                have e0q : a'.tmps[220]?.getD undef = .int .i64 e0i := by rw [← Array.getD_eq_getD_getElem?]; exact e0
                obtain ⟨e1b, e1, e1t⟩ : ∃ g, a'.tmps.getD 229 undef = .slice (some ⟨g, 0, none⟩) 2 2 ∧ TB Θw B (up N' 6) wx g 0 2 := hdeps 13 (by decide) 229 rfl
                have e1q : a'.tmps[229]?.getD undef = .slice (some ⟨e1b, 0, none⟩) 2 2 := by rw [← Array.getD_eq_getD_getElem?]; exact e1
                clear hoth hdeps hdf hts ho hld
                refine wp_via (fun K' hK => ?_)
                have HK := Lib.hid hK
                clear hK
                go_simp
                exact HK.out _ _ ⟨_, rfl, hrt.same (by decide), Goes.refl _ _ _ _, fun _ => ⟨[.int .i64 e0i, .slice (some ⟨e1b, 0, none⟩) 2 2], rfl, ⟨_, rfl, e0l, e0h⟩, (e1t.gd (by have := hloS 0; omega)), trivial⟩⟩
              · obtain rfl := Option.some.inj ho
                obtain ⟨e0v, e0, e0g⟩ : ∃ vs : List Value, a'.tmps.getD 230 undef = .agg vs.toArray ∧ GdL Θw B (up N' 6) wx (Θw.fds 6) vs := hdeps 14 (by decide) 230 rfl
                obtain ⟨e0x0, e0x1, e0y1, e0z1, rfl⟩ := inv6 e0g
                replace e0 : a'.tmps.getD 230 undef = .agg #[.int .i64 e0x0, .slice e0x1 e0y1 e0z1] := e0
                have e0q : a'.tmps[230]?.getD undef = .agg #[.int .i64 e0x0, .slice e0x1 e0y1 e0z1] := by rw [← Array.getD_eq_getD_getElem?]; exact e0
                clear hoth hdeps hdf hts ho hld
                refine wp_via (fun K' hK => ?_)
                have HK := Lib.hid hK
                clear hK
                go_simp
                exact HK.out _ _ ⟨_, rfl, hrt.all (by decide) (Kept.alloc _ _ _) hσ (trivial), Goes.all (Kept.alloc _ _ _), fun _ => ⟨_, rfl, TB.lit1 hrt.lt (by decide) e0g⟩⟩
              · obtain rfl := Option.some.inj ho
                obtain ⟨ea, en, ec, e, el, eg⟩ : ∃ a n c, a'.tmps.getD 217 undef = .slice a n c ∧ n ≤ N' 6 ∧ Gd Θw B (up N' 6) wx (.sl 6) (.slice a n c) := hdeps 1 (by decide) 217 rfl
                obtain ⟨xb, x, xt⟩ : ∃ g, a'.tmps.getD 231 undef = .slice (some ⟨g, 0, none⟩) 1 1 ∧ TB Θw B (up N' 6) wx g 6 1 := hdeps 15 (by decide) 231 rfl
                have hlc : L 1 = true := hld 1 (by decide)
                clear hoth hdeps hdf hts ho hld
                refine wp_via (fun K' hK => ?_)
                have HK := Lib.hid hK
                clear hK
                refine op_append_tt wOk6 (wSep 6 (by decide)) wx _ _ rfl (ea) en ec e eg _ 1 1 x xt (by decide) (by decide) (up N' 6) (fun _ => Nat.le_refl _) (by have := el; have := up_at N' 6; omega) (by have := hhiS 6; omega) hrt.lt ?_
                intro p' c' w' hA
                exact HK.out _ _ ⟨_, rfl, hrt.app hlc (fun x => up_le N' 6 x) eg hA hσ (trivial), hA.goes, fun _ => hA.gd⟩
              · obtain rfl := Option.some.inj ho
                have e : a'.tmps.getD 5 undef = .pointer (some ⟨wb, 0, none⟩) := tmp_of ((hoth 5 (by decide)).trans rfl)
                clear hoth hdeps hdf hts ho hld
                refine wp_via (fun K' hK => ?_)
                have HK := Lib.hid hK
                clear hK
                go_simp
                exact HK.out _ _ ⟨_, rfl, hrt.same (by decide), Goes.refl _ _ _ _, fun _ => rfl⟩
            · intro L wx f hrt hdl
              have pp9 : f 233 = .pointer (some ⟨wb, 2, none⟩) := hdl 17 233 (by decide) rfl
              obtain ⟨pvv, pv', pvg'⟩ : ∃ v, f 232 = v ∧ Gd Θw B (up N' 6) wx (.sl 6) v := ⟨_, rfl, hdl 16 232 (by decide) rfl⟩
              obtain ⟨pva, pvn, pvc, rfl, -⟩ := pvg'.slice
              have pv := pv'
              have pvg := Lib.hid pvg'
              clear pv' pvg'
              rw [show dsts _ _ = [216, 217, 218, 219, 220, 221, 222, 223, 224, 225, 226, 227, 228, 229, 230, 231, 232, 233] from by kernel_rfl]
              simp only [List.map_cons, List.map_nil, puts, Act.put, pp9, pv]
              generalize f 216 = f216
              generalize f 217 = f217
              generalize f 218 = f218
              generalize f 219 = f219
              generalize f 220 = f220
              generalize f 221 = f221
              generalize f 222 = f222
              generalize f 223 = f223
              generalize f 224 = f224
              generalize f 225 = f225
              generalize f 226 = f226
              generalize f 227 = f227
              generalize f 228 = f228
              generalize f 229 = f229
              generalize f 230 = f230
              generalize f 231 = f231
              simp only [List.setIfInBounds_toArray, List.set_cons_zero, List.set_cons_succ]
              clear hdl pp9 pv f
              obtain ⟨mz', hstz, hmz1, hmz2⟩ := hrt.st
              have hgoz := Lib.hid (hrt.goes (fun x => up_le N' 6 x))
              have hkpz := Lib.hid hrt.kp
              have hltz := Lib.hid hrt.lt
              have hstz := Lib.hid hstz
              have hexz := Lib.hid hrt.ex
              clear hrt
              have HT := Lib.hid (hgoz.out.tb _ _ _ HWBT.out)
              obtain ⟨a3, n3, c3, d3, -, -⟩ := HT.out.ldL (i := 0) (j := 2) (o := 2) (by decide) rfl (by decide)
              have z3 := HT.out.fz 2
              obtain ⟨hks, hset⟩ := HT.out.put (j := 2) (f := .sl 6) (u := .slice pva pvn pvc) rfl pvg.out
              have HGX9 := Lib.hid (show GenX σ B N (up N' 6) n (20010 + 300 * k + 290) w0 wx mz' from ⟨hstz.out, by have := HGT.out.lo; omega, by have := HGT.out.hi; omega, HGT.out.kp.trans hkpz.out, HGT.out.goes.trans hgoz.out, hltz.out⟩)
              have HF := Lib.hid (HGX9.out.go hσ hks hset)
              have HS := Lib.hid ((HGOT.out.trans hgoz.out).trans hset)
              have HUP := Lib.hid (show Nb (up N' 6) (32 + (k + 1)) (k + 1) from (HNB.out.up1).mono (by omega) (Nat.le_refl _))
              clear hks hset
              go_wp2_with fail
              go_roundw
              case rel => exact ⟨k + 1, up N' 6, mz', by omega, by go_num, HUP.out, HF.out.up (by omega), HS.out⟩
              case measure => simp [intOf]; omega
          | false =>
            have hloS : ∀ x, 8 ≤ (up N' 4) x := fun x => Nat.le_trans (HNB.out x).1 (up_le N' _ x)
            have hhiS : ∀ x, (up N' 4) x ≤ 1000 := fun x => by have := up_lt N' 4 x; have := HNB.out x; omega
            go_upto_region 49 with fail
            refine wp_region_ty 14 (by kernel_rfl) (by kernel_rfl) (RT Θw σ B N' (up N' 4) (fun _ => True) wt mt 12 1)
              (DL [QIs (.pointer (some ⟨wb, 3, none⟩)), PL Θw B N' (up N' 4) 4, QIs (.slice (some ⟨kb, 0, none⟩) kn 7), QIs (.int .i64 (x : Int)), QIs (.pointer (some ⟨kb, x, none⟩)), PG Θw B (up N' 4) .s, QIs (.slice (some ⟨kb, 0, none⟩) kn 7), QIs (.int .i64 (y : Int)), QIs (.pointer (some ⟨kb, y, none⟩)), PG Θw B (up N' 4) .s, PA Θw B (up N' 4) 4, PT Θw B (up N' 4) 4 1, PG Θw B (up N' 4) (.sl 4), QIs (.pointer (some ⟨wb, 3, none⟩))]) (fun w w' => Goes Θw B (up N' 4) w (up N' 4) w')
              (DL.keep (by simp only [List.forall_mem_cons, List.not_mem_nil, false_implies, implies_true, and_true]; exact ⟨QIs.stays' _, PL.stays _, QIs.stays' _, QIs.stays' _, QIs.stays' _, PG.stays _, QIs.stays' _, QIs.stays' _, QIs.stays' _, PG.stays _, PA.stays _, PT.stays _ _, PG.stays _, QIs.stays' _⟩)) ?_ ?_ ?_
            · exact ⟨⟨mt, HST.out.keep (Kept.drew _ _), Nat.le_refl _, by omega⟩, Kept.drew _ _, HLT.out, by rw [if_neg (by decide)]; exact Goes.all (Kept.drew _ _), fun h => (by cases h), trivial⟩
            · intro i o ho hi kq L a' wx hkq hrt hL hdf hts hoth hld hdeps
              have hkz : kq < 14 := hkq
              have hz : i = 0 ∨ i = 1 ∨ i = 2 ∨ i = 3 ∨ i = 4 ∨ i = 5 ∨ i = 6 ∨ i = 7 ∨ i = 8 ∨ i = 9 ∨ i = 10 ∨ i = 11 ∨ i = 12 ∨ i = 13 := by have : i < 14 := hi; omega
              rcases hz with rfl | rfl | rfl | rfl | rfl | rfl | rfl | rfl | rfl | rfl | rfl | rfl | rfl | rfl
              · obtain rfl := Option.some.inj ho
                have e : a'.tmps.getD 5 undef = .pointer (some ⟨wb, 0, none⟩) := tmp_of ((hoth 5 (by decide)).trans rfl)
                clear hoth hdeps hdf hts ho hld
                refine wp_via (fun K' hK => ?_)
                have HK := Lib.hid hK
                clear hK
                go_simp
                exact HK.out _ _ ⟨_, rfl, hrt.same (by decide), Goes.refl _ _ _ _, fun _ => rfl⟩
              · obtain rfl := Option.some.inj ho
                have e : a'.tmps.getD 234 undef = .pointer (some ⟨wb, 3, none⟩) := hdeps 0 (by decide) 234 rfl
                obtain ⟨a0, n0, c0', c0, z0, g0⟩ := ((hrt.old (hrt.notyet hL)).tb _ _ _ HWBT.out).ldL (i := 0) (j := 3) (o := 3) (by decide) rfl (by decide)
                clear hoth hdeps hdf hts ho hld
                refine wp_via (fun K' hK => ?_)
                have HK := Lib.hid hK
                clear hK
                go_simp
                exact HK.out _ _ ⟨_, rfl, hrt.same (by decide), Goes.refl _ _ _ _, fun _ => ⟨_, _, _, rfl, z0, Gd.goes g0 (Goes.up (fun x => up_le N' 4 x))⟩⟩
              · obtain rfl := Option.some.inj ho
                have e : a'.tmps.getD 11 undef = .slice (some ⟨kb, 0, none⟩) kn 7 := tmp_of ((hoth 11 (by decide)).trans rfl)
                clear hoth hdeps hdf hts ho hld
                refine wp_via (fun K' hK => ?_)
                have HK := Lib.hid hK
                clear hK
                go_simp
                exact HK.out _ _ ⟨_, rfl, hrt.same (by decide), Goes.refl _ _ _ _, fun _ => rfl⟩
              · obtain rfl := Option.some.inj ho
                have e : a'.tmps.getD 16 undef = .int .i64 (x : Int) := tmp_of ((hoth 16 (by decide)).trans rfl)
                clear hoth hdeps hdf hts ho hld
                refine wp_via (fun K' hK => ?_)
                have HK := Lib.hid hK
                clear hK
                go_simp
                exact HK.out _ _ ⟨_, rfl, hrt.same (by decide), Goes.refl _ _ _ _, fun _ => rfl⟩
              · obtain rfl := Option.some.inj ho
                have e : a'.tmps.getD 236 undef = .slice (some ⟨kb, 0, none⟩) kn 7 := hdeps 2 (by decide) 236 rfl
                have x : a'.tmps.getD 237 undef = .int .i64 (x : Int) := hdeps 3 (by decide) 237 rfl
                clear hoth hdeps hdf hts ho hld
                refine wp_via (fun K' hK => ?_)
                have HK := Lib.hid hK
                clear hK
                go_simp
                exact HK.out _ _ ⟨_, rfl, hrt.same (by decide), Goes.refl _ _ _ _, fun _ => rfl⟩
              · obtain rfl := Option.some.inj ho
                have e : a'.tmps.getD 238 undef = .pointer (some ⟨kb, x, none⟩) := hdeps 4 (by decide) 238 rfl
                obtain ⟨s0, c0, z0⟩ := ((hrt.goes (fun x => up_le N' 4 x)).tb _ _ _ HKBT.out).ldS (i := x) (j := 0) (o := x) hx7 rfl (by show x = x * 1 + 0; omega)
                clear hoth hdeps hdf hts ho hld
                refine wp_via (fun K' hK => ?_)
                have HK := Lib.hid hK
                clear hK
                go_simp
                exact HK.out _ _ ⟨_, rfl, hrt.same (by decide), Goes.refl _ _ _ _, fun _ => ⟨_, rfl, z0⟩⟩
              · obtain rfl := Option.some.inj ho
                have e : a'.tmps.getD 11 undef = .slice (some ⟨kb, 0, none⟩) kn 7 := tmp_of ((hoth 11 (by decide)).trans rfl)
                clear hoth hdeps hdf hts ho hld
                refine wp_via (fun K' hK => ?_)
                have HK := Lib.hid hK
                clear hK
                go_simp
                exact HK.out _ _ ⟨_, rfl, hrt.same (by decide), Goes.refl _ _ _ _, fun _ => rfl⟩
              · obtain rfl := Option.some.inj ho
                have e : a'.tmps.getD 17 undef = .int .i64 (y : Int) := tmp_of ((hoth 17 (by decide)).trans rfl)
                clear hoth hdeps hdf hts ho hld
                refine wp_via (fun K' hK => ?_)
                have HK := Lib.hid hK
                clear hK
                go_simp
                exact HK.out _ _ ⟨_, rfl, hrt.same (by decide), Goes.refl _ _ _ _, fun _ => rfl⟩
              · obtain rfl := Option.some.inj ho
                have e : a'.tmps.getD 240 undef = .slice (some ⟨kb, 0, none⟩) kn 7 := hdeps 6 (by decide) 240 rfl
                have x : a'.tmps.getD 241 undef = .int .i64 (y : Int) := hdeps 7 (by decide) 241 rfl
                clear hoth hdeps hdf hts ho hld
                refine wp_via (fun K' hK => ?_)
                have HK := Lib.hid hK
                clear hK
                go_simp
                exact HK.out _ _ ⟨_, rfl, hrt.same (by decide), Goes.refl _ _ _ _, fun _ => rfl⟩
              · obtain rfl := Option.some.inj ho
                have e : a'.tmps.getD 242 undef = .pointer (some ⟨kb, y, none⟩) := hdeps 8 (by decide) 242 rfl
                obtain ⟨s0, c0, z0⟩ := ((hrt.goes (fun x => up_le N' 4 x)).tb _ _ _ HKBT.out).ldS (i := y) (j := 0) (o := y) hy7 rfl (by show y = y * 1 + 0; omega)
                clear hoth hdeps hdf hts ho hld
                refine wp_via (fun K' hK => ?_)
                have HK := Lib.hid hK
                clear hK
                go_simp
                exact HK.out _ _ ⟨_, rfl, hrt.same (by decide), Goes.refl _ _ _ _, fun _ => ⟨_, rfl, z0⟩⟩
              · obtain rfl := Option.some.inj ho
                obtain ⟨e0s, e0, e0z⟩ : ∃ s : ByteArray, a'.tmps.getD 239 undef = .string s ∧ s.size ≤ 200 := hdeps 5 (by decide) 239 rfl
                have e0q : a'.tmps[239]?.getD undef = .string e0s := by rw [← Array.getD_eq_getD_getElem?]; exact e0
                obtain ⟨e1s, e1, e1z⟩ : ∃ s : ByteArray, a'.tmps.getD 243 undef = .string s ∧ s.size ≤ 200 := hdeps 9 (by decide) 243 rfl
                have e1q : a'.tmps[243]?.getD undef = .string e1s := by rw [← Array.getD_eq_getD_getElem?]; exact e1
                clear hoth hdeps hdf hts ho hld
                refine wp_via (fun K' hK => ?_)
                have HK := Lib.hid hK
                clear hK
                go_simp
                exact HK.out _ _ ⟨_, rfl, hrt.same (by decide), Goes.refl _ _ _ _, fun _ => ⟨[.string e0s, .string e1s], rfl, ⟨_, rfl, e0z⟩, ⟨_, rfl, e1z⟩, trivial⟩⟩
              · obtain rfl := Option.some.inj ho
                obtain ⟨e0v, e0, e0g⟩ : ∃ vs : List Value, a'.tmps.getD 244 undef = .agg vs.toArray ∧ GdL Θw B (up N' 4) wx (Θw.fds 4) vs := hdeps 10 (by decide) 244 rfl
                obtain ⟨e0x0, e0x1, rfl⟩ := inv4 e0g
                replace e0 : a'.tmps.getD 244 undef = .agg #[.string e0x0, .string e0x1] := e0
                have e0q : a'.tmps[244]?.getD undef = .agg #[.string e0x0, .string e0x1] := by rw [← Array.getD_eq_getD_getElem?]; exact e0
                clear hoth hdeps hdf hts ho hld
                refine wp_via (fun K' hK => ?_)
                have HK := Lib.hid hK
                clear hK
                go_simp
                exact HK.out _ _ ⟨_, rfl, hrt.all (by decide) (Kept.alloc _ _ _) hσ (trivial), Goes.all (Kept.alloc _ _ _), fun _ => ⟨_, rfl, TB.lit1 hrt.lt (by decide) e0g⟩⟩
              · obtain rfl := Option.some.inj ho
                obtain ⟨ea, en, ec, e, el, eg⟩ : ∃ a n c, a'.tmps.getD 235 undef = .slice a n c ∧ n ≤ N' 4 ∧ Gd Θw B (up N' 4) wx (.sl 4) (.slice a n c) := hdeps 1 (by decide) 235 rfl
                obtain ⟨xb, x, xt⟩ : ∃ g, a'.tmps.getD 245 undef = .slice (some ⟨g, 0, none⟩) 1 1 ∧ TB Θw B (up N' 4) wx g 4 1 := hdeps 11 (by decide) 245 rfl
                have hlc : L 1 = true := hld 1 (by decide)
                clear hoth hdeps hdf hts ho hld
                refine wp_via (fun K' hK => ?_)
                have HK := Lib.hid hK
                clear hK
                refine op_append_tt wOk4 (wSep 4 (by decide)) wx _ _ rfl (ea) en ec e eg _ 1 1 x xt (by decide) (by decide) (up N' 4) (fun _ => Nat.le_refl _) (by have := el; have := up_at N' 4; omega) (by have := hhiS 4; omega) hrt.lt ?_
                intro p' c' w' hA
                exact HK.out _ _ ⟨_, rfl, hrt.app hlc (fun x => up_le N' 4 x) eg hA hσ (trivial), hA.goes, fun _ => hA.gd⟩
              · obtain rfl := Option.some.inj ho
                have e : a'.tmps.getD 5 undef = .pointer (some ⟨wb, 0, none⟩) := tmp_of ((hoth 5 (by decide)).trans rfl)
                clear hoth hdeps hdf hts ho hld
                refine wp_via (fun K' hK => ?_)
                have HK := Lib.hid hK
                clear hK
                go_simp
                exact HK.out _ _ ⟨_, rfl, hrt.same (by decide), Goes.refl _ _ _ _, fun _ => rfl⟩
            · intro L wx f hrt hdl
              have pp9 : f 247 = .pointer (some ⟨wb, 3, none⟩) := hdl 13 247 (by decide) rfl
              obtain ⟨pvv, pv', pvg'⟩ : ∃ v, f 246 = v ∧ Gd Θw B (up N' 4) wx (.sl 4) v := ⟨_, rfl, hdl 12 246 (by decide) rfl⟩
              obtain ⟨pva, pvn, pvc, rfl, -⟩ := pvg'.slice
              have pv := pv'
              have pvg := Lib.hid pvg'
              clear pv' pvg'
              rw [show dsts _ _ = [234, 235, 236, 237, 238, 239, 240, 241, 242, 243, 244, 245, 246, 247] from by kernel_rfl]
              simp only [List.map_cons, List.map_nil, puts, Act.put, pp9, pv]
              generalize f 234 = f234
              generalize f 235 = f235
              generalize f 236 = f236
              generalize f 237 = f237
              generalize f 238 = f238
              generalize f 239 = f239
              generalize f 240 = f240
              generalize f 241 = f241
              generalize f 242 = f242
              generalize f 243 = f243
              generalize f 244 = f244
              generalize f 245 = f245
              simp only [List.setIfInBounds_toArray, List.set_cons_zero, List.set_cons_succ]
              clear hdl pp9 pv f
              obtain ⟨mz', hstz, hmz1, hmz2⟩ := hrt.st
              have hgoz := Lib.hid (hrt.goes (fun x => up_le N' 4 x))
              have hkpz := Lib.hid hrt.kp
              have hltz := Lib.hid hrt.lt
              have hstz := Lib.hid hstz
              have hexz := Lib.hid hrt.ex
              clear hrt
              have HT := Lib.hid (hgoz.out.tb _ _ _ HWBT.out)
              obtain ⟨a3, n3, c3, d3, -, -⟩ := HT.out.ldL (i := 0) (j := 3) (o := 3) (by decide) rfl (by decide)
              have z3 := HT.out.fz 3
              obtain ⟨hks, hset⟩ := HT.out.put (j := 3) (f := .sl 4) (u := .slice pva pvn pvc) rfl pvg.out
              have HGX9 := Lib.hid (show GenX σ B N (up N' 4) n (20010 + 300 * k + 290) w0 wx mz' from ⟨hstz.out, by have := HGT.out.lo; omega, by have := HGT.out.hi; omega, HGT.out.kp.trans hkpz.out, HGT.out.goes.trans hgoz.out, hltz.out⟩)
              have HF := Lib.hid (HGX9.out.go hσ hks hset)
              have HS := Lib.hid ((HGOT.out.trans hgoz.out).trans hset)
              have HUP := Lib.hid (show Nb (up N' 4) (32 + (k + 1)) (k + 1) from (HNB.out.up1).mono (by omega) (Nat.le_refl _))
              clear hks hset
              go_wp2_with fail
              go_roundw
              case rel => exact ⟨k + 1, up N' 4, mz', by omega, by go_num, HUP.out, HF.out.up (by omega), HS.out⟩
              case measure => simp [intOf]; omega
      case rest =>
        obtain ⟨N4, m4, hnb4, hgen4, hgo4⟩ := hcut
        obtain ⟨wG, rfl⟩ : ∃ z : World, z = wc := ⟨_, rfl⟩
        have HNB4 := Lib.hid hnb4
        have HGXG := Lib.hid hgen4
        have HWBG := Lib.hid (hgo4.tb _ _ _ HWBF.out)
        have HRBG := Lib.hid (hgo4.tb _ _ _ HRBF.out)
        clear hnb4 hgen4 hgo4 HWBF HRBF HKBF HGXF
        have hN0 : N4 0 ≤ 1000 := by have := HNB4.out 0; omega
        obtain ⟨a2, n2, c2, f2, hn2, hg2⟩ := HWBG.out.ldL (i := 0) (j := 2) (o := 2) (by decide) rfl (by decide)
        have HG2 := Lib.hid hg2
        have hn12 : n2 ≤ 12 := by have := HNB4.out 6; omega
        clear hg2 hn2
        go_wp2_with fail
        refine (sortWrk_any B N4 a2 n2 c2 121 wG HG2.out hn12 (enters_of Tryz.func121 (by kernel_rfl) rfl) (cmpWork_ok B N4 hN0)).mono ?_
        rintro e wH ⟨rfl, hgh, hkh⟩
        have HGXH := Lib.hid (HGXG.out.go hσ (lowB hkh) hgh)
        have HWBH := Lib.hid (hgh.tb _ _ _ HWBG.out)
        have HRBH := Lib.hid (hgh.tb _ _ _ HRBG.out)
        clear hgh hkh f2 HG2 HGXG HWBG HRBG hn12
        obtain ⟨a3, n3, c3, f3, hn3, hg3⟩ := HWBH.out.ldL (i := 0) (j := 2) (o := 2) (by decide) rfl (by decide)
        have HG3 := Lib.hid hg3
        have hn30 : n3 ≤ 1000 := by have := HNB4.out 6; omega
        clear hg3
        go_wp2_with fail
        refine (compactWrk_any B N4 a3 n3 c3 wH HG3.out hn30 123 (enters_of Tryz.func123 (by kernel_rfl) rfl) (cmpWorkEq_ok B N4 hN0)).mono ?_
        rintro e wI ⟨a4, n4, c4, rfl, hn4, hg4, hgi, hki⟩
        have HGXI := Lib.hid (HGXH.out.go hσ (lowB hki) hgi)
        have HWBI := Lib.hid (hgi.tb _ _ _ HWBH.out)
        have HRBI := Lib.hid (hgi.tb _ _ _ HRBH.out)
        obtain ⟨a5, n5, c5, f5, -, -⟩ := HWBI.out.ldL (i := 0) (j := 2) (o := 2) (by decide) rfl (by decide)
        have z5 := HWBI.out.fz 2
        obtain ⟨hks5, hset5⟩ := HWBI.out.put (j := 2) (f := .sl 6) (u := .slice a4 n4 c4) rfl hg4
        obtain ⟨wJ, hwJ⟩ : ∃ z, z = wI.setCell ⟨wb, 2, none⟩ (.slice a4 n4 c4) := ⟨_, rfl⟩
        rw [← hwJ] at hks5 hset5
        have HWJ := Lib.hid hwJ
        have HGXJ := Lib.hid (HGXI.out.go hσ hks5 hset5)
        have HWBJ := Lib.hid (hset5.tb _ _ _ HWBI.out)
        have HRBJ := Lib.hid (hset5.tb _ _ _ HRBI.out)
        clear hki hgi hg4 hks5 hset5 hwJ f3 HG3 HGXH HWBH HRBH HGXI HWBI HRBI hn3 hn30
        go_upto_region 53 with fail
        simp only [← HWJ.out]
        clear f5 z5 HWJ
        obtain ⟨a6, n6, c6, f6, hn6, hg6⟩ := HWBJ.out.ldL (i := 0) (j := 3) (o := 3) (by decide) rfl (by decide)
        have HG6 := Lib.hid hg6
        have hn12 : n6 ≤ 12 := by have := HNB4.out 4; omega
        clear hg6 hn6
        go_wp2_with fail
        refine (sortBnd_any B N4 a6 n6 c6 124 wJ HG6.out hn12 (enters_of Tryz.func124 (by kernel_rfl) rfl) (cmpBond_ok B N4)).mono ?_
        rintro e wK ⟨rfl, hgk, hkk⟩
        have HGXK := Lib.hid (HGXJ.out.go hσ (lowB hkk) hgk)
        have HWBK := Lib.hid (hgk.tb _ _ _ HWBJ.out)
        have HRBK := Lib.hid (hgk.tb _ _ _ HRBJ.out)
        clear hgk hkk f6 HG6 HGXJ HWBJ HRBJ hn12
        obtain ⟨a7, n7, c7, f7, hn7, hg7⟩ := HWBK.out.ldL (i := 0) (j := 3) (o := 3) (by decide) rfl (by decide)
        have HG7 := Lib.hid hg7
        have hn70 : n7 ≤ 1000 := by have := HNB4.out 4; omega
        clear hg7
        go_wp2_with fail
        refine (compactBnd_any B N4 a7 n7 c7 wK HG7.out hn70).mono ?_
        rintro e wL ⟨a8, n8, c8, rfl, hn8, hg8, hgl, hkl⟩
        have HGXL := Lib.hid (HGXK.out.go hσ (lowB hkl) hgl)
        have HWBL := Lib.hid (hgl.tb _ _ _ HWBK.out)
        have HRBL := Lib.hid (hgl.tb _ _ _ HRBK.out)
        obtain ⟨a9, n9, c9, f9, -, -⟩ := HWBL.out.ldL (i := 0) (j := 3) (o := 3) (by decide) rfl (by decide)
        have z9 := HWBL.out.fz 3
        obtain ⟨hks9, hset9⟩ := HWBL.out.put (j := 3) (f := .sl 4) (u := .slice a8 n8 c8) rfl hg8
        obtain ⟨wM, hwM⟩ : ∃ z, z = wL.setCell ⟨wb, 3, none⟩ (.slice a8 n8 c8) := ⟨_, rfl⟩
        rw [← hwM] at hks9 hset9
        have HWM := Lib.hid hwM
        have HGXM := Lib.hid (HGXL.out.go hσ hks9 hset9)
        have HWBM := Lib.hid (hset9.tb _ _ _ HWBL.out)
        have HRBM := Lib.hid (hset9.tb _ _ _ HRBL.out)
        clear hkl hgl hg8 hks9 hset9 hwM f7 HG7 HGXK HWBK HRBK HGXL HWBL HRBL hn7 hn70
        go_upto_region 55 with fail
        simp only [← HWM.out]
        clear f9 z9 HWM
        obtain ⟨v0, y0, t0, v1, y1, t1, v2, y2, t2, v3, y3, t3, f0, f1, f2, f3, g0, g1, g2, g3⟩ := HWBM.out.wld (by decide)
        obtain ⟨b0, o0, p0, b1, o1, p1, b2, o2, p2, b3, o3, p3, r0, r1, r2, r3, -⟩ := HRBM.out.wld (by decide)
        have z0 := HRBM.out.fz 0
        have z1 := HRBM.out.fz 1
        have z2 := HRBM.out.fz 2
        have z3 := HRBM.out.fz 3
        obtain ⟨hwg, hff, q0', q1', q2', q3'⟩ := wldFin HRBM.out g0 g1 g2 g3
        have HWG := Lib.hid hwg
        have HFF := Lib.hid (HGXM.out.fin hff (c' := 100000) HRBM.out.low hσ (by omega))
        have HNF := Lib.hid (show ∀ x, 8 ≤ N4 x ∧ N4 x ≤ 100 from fun x => by have := HNB4.out x; omega)
        clear g0 g1 g2 g3 hwg hff
        go_wp2_with fail
        refine bodyPost_ret (v := .agg #[.slice v0 y0 t0, .slice v1 y1 t1, .slice v2 y2 t2, .slice v3 y3 t3]) ?_ rfl ⟨_, _, N4, rfl, HWG.out, HFF.out, HNF.out⟩
        simp [results, Tryz.results57, go_sem, q0', q1', q2', q3']
end Go.Proofs.YtgobnlgmbplggaaGreatDoor
