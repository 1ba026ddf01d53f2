/- FinalsFault answers finalsF. -/
import Derived.Test.YtbpbhpmkganefaaGreatDoorGe
namespace Go.Proofs.YtbpbhpmkganefaaGreatDoor
open Go.RowKit

theorem finalsFault1_any (kp : Nat) (key : ByteArray) (y : Cred) (w : World) (ck : w.cell? ⟨kp, 0, none⟩ = some (.string key)) :
    Calls Tryz.prog 67 #[.agg #[.string y.key, .string y.name], .pointer (some ⟨kp, 0, none⟩)] w fun e w' => e = .returned (.bool (hasKey key y)) ∧ All w w' := by
  have hkp := lt_of_cell ck
  dsimp only at hkp
  by_cases h : y.key = key
  · have hb : hasKey key y = true := by simp [hasKey, h]
    have e1 : (y.key.toList == key.toList) = true := by simp [h]
    rw [hb]
    clear hb h
    go_enter Tryz.func67, Tryz.ntmps67
    go_wp2_with fail
    go_ret
    exact ⟨rfl, Kept.alloc _ _ _⟩
  · have hb : hasKey key y = false := by simp [hasKey, h]
    have e1 : (y.key.toList == key.toList) = false := by simp; exact fun e => h (bytes_ext e)
    rw [hb]
    clear hb h
    go_enter Tryz.func67, Tryz.ntmps67
    go_wp2_with fail
    go_ret
    exact ⟨rfl, Kept.alloc _ _ _⟩

theorem containsCred_any (g : FuncId) (caps : Array Value) (eg : ∀ args w, (callFunc g args).run Tryz.prog w = .ok (.enter g args) w) (p : Cred → Bool)
    (a : Option Addr) (len cap : Nat) (ss : List Cred) (w : World) (hs : Sl RCred 2 (fun _ => True) w a len ss) (hl : len ≤ 1000000) (hp : AnswersC Tryz.prog g caps w p) :
    Calls Tryz.prog 66 #[.slice a len cap, .func (.func g) #[] caps] w fun e w' => e = .returned (.bool (ss.any p)) ∧ All w w' := by
  have hI := Lib.hid (indexCred_any g caps eg p a len cap ss w hs hl hp)
  clear hp
  cases hx : ss.any p with
  | true =>
    have h0 := findG_nonneg (k := 0) hx
    clear hx
    go_enter Tryz.func66, Tryz.ntmps66
    go_wp2_with fail
    refine hI.out.mono ?_
    rintro e w' ⟨rfl, hw⟩
    go_wp2
    go_ret
    exact ⟨rfl, hw⟩
  | false =>
    have h0 := findG_neg (k := 0) hx
    clear hx
    go_enter Tryz.func66, Tryz.ntmps66
    go_wp2_with fail
    refine hI.out.mono ?_
    rintro e w' ⟨rfl, hw⟩
    rw [h0]
    go_wp2
    go_ret
    exact ⟨rfl, hw⟩

set_option maxRecDepth 100000 in
set_option maxHeartbeats 12800000 in
theorem finalsFault_any (a : Option Addr) (len cap : Nat) (xs : List Fin4) (w : World) (hs : Sl RFin 4 (fun _ => True) w a len xs) (hl : len ≤ 1000) (hg : Glob w) :
    Calls Tryz.prog 36 #[.slice a len cap] w fun e w' => e = .returned (.int .i64 (finalsF xs)) ∧ All w w' := by
  have hlen := hs.len
  by_cases h400 : 400 < len
  · have hfin := Lib.hid (finalsF_large (xs := xs) (by omega))
    have d1 : decide ((400 : Int) < (len : Int)) = true := by simp; omega
    rw [hfin.out]
    clear hlen
    go_enter Tryz.func36, Tryz.ntmps36
    go_wp2_with fail
    go_ret
    exact ⟨rfl, Kept.refl _ _⟩
  · have d1 : decide ((400 : Int) < (len : Int)) = false := by simp; omega
    rw [finalsF_some (xs := xs) (by omega)]
    have Hlen := Lib.hid hlen
    have HG := Lib.hid hg
    have eg : ∀ args w, (callFunc 67 args).run Tryz.prog w = .ok (.enter 67 args) w := enters_of Tryz.func67 (by kernel_rfl) rfl
    clear hlen hg
    go_enter Tryz.func36, Tryz.ntmps36
    go_wp2_with fail
    go_loopw [3, 13] (fun s i wr => ∃ k : Nat, k ≤ len ∧ i = .int .i64 k ∧ s = .string ((lastP (xs.take k)).getD ByteArray.empty) ∧ FinAt xs k ∧ All w wr) (fun _ i _ => len - (intOf i).toNat)
    case atStart => exact ⟨0, Nat.zero_le _, rfl, by rw [lastP_zero]; rfl, FinAt.zero _, Kept.refl _ _⟩
    case round =>
      obtain ⟨k, hk, rfl, rfl, hat, hall⟩ := hrel
      obtain ⟨wo, rfl⟩ : ∃ wo : World, wo = wr := ⟨_, rfl⟩
      generalize hlp : (lastP (xs.take k)).getD ByteArray.empty = lp
      by_cases hlt : k < len
      · have hso := hs.keep RFin.ok hall
        obtain ⟨b, off, x, ac, cc, ha, -, c0, c1, c2, c3, ⟨hz1, hz2, -, -, hcl⟩, hcc, hcr, hx, -, -⟩ := hso.atFin hlt
        subst ha
        have HA := Lib.hid hat
        have Hx := Lib.hid hx
        clear hat hx hs hso
        have hwa := hall.then_alloc (.cells #[.string x.paper, .string x.title, .int .i64 x.pages, .slice ac x.credits.length cc] 57)
        have hblk := heap_at wo (.cells #[.string x.paper, .string x.title, .int .i64 x.pages, .slice ac x.credits.length cc] 57) _ rfl
        have hcr' := hcr.keep RCred.ok (Kept.alloc (fun _ => True) wo (.cells #[.string x.paper, .string x.title, .int .i64 x.pages, .slice ac x.credits.length cc] 57))
        have e0 := cell_at (i := 0) hblk rfl
        have e1 := cell_at (i := 1) hblk rfl
        have e2 := cell_at (i := 2) hblk rfl
        have e3 := cell_at (i := 3) hblk rfl
        clear hblk hcr
        cases h1 : isKeyB x.paper with
        | false =>
          have hfin := Lib.hid (HA.out.bad Hx.out (finF_name h1) (by decide))
          go_wp2_with fail
          refine (key_any x.paper _ hz1).mono ?_
          rintro e w1 ⟨rfl, hw1⟩
          have k0 := hw1.cell e0 trivial
          have k1 := hw1.cell e1 trivial
          have k2 := hw1.cell e2 trivial
          have k3 := hw1.cell e3 trivial
          have hwb := hwa.trans hw1
          have hcr1 := hcr'.keep RCred.ok hw1
          rw [h1]
          clear hwa hw1 hcr'
          go_wp2_with fail
          go_ret
          exact ⟨ret_int' hfin.out.symm, hwb⟩
        | true =>
          have hob := ordB_last (p := lastP (xs.take k)) h1
          rw [hlp] at hob
          cases h2 : leB x.paper lp with
          | true =>
            have hfin := Lib.hid (HA.out.bad Hx.out (finF_order h1 (hob.trans h2)) (by decide))
            have h2' : (Op.bytesLess x.paper.toList lp.toList || x.paper.toList == lp.toList) = true := h2
            clear hob h2
            go_wp2_with fail
            refine (key_any x.paper _ hz1).mono ?_
            rintro e w1 ⟨rfl, hw1⟩
            have k0 := hw1.cell e0 trivial
            have k1 := hw1.cell e1 trivial
            have k2 := hw1.cell e2 trivial
            have k3 := hw1.cell e3 trivial
            have hwb := hwa.trans hw1
            have hcr1 := hcr'.keep RCred.ok hw1
            rw [h1]
            clear hwa hw1 hcr'
            go_wp2_with fail
            go_ret
            exact ⟨ret_int' hfin.out.symm, hwb⟩
          | false =>
            have hord : ordB (lastP (xs.take k)) x.paper = false := hob.trans h2
            have h2' : (Op.bytesLess x.paper.toList lp.toList || x.paper.toList == lp.toList) = false := h2
            have HO := Lib.hid hord
            clear hob h2 hord
            cases h3 : lineB x.title 200 with
            | false =>
              have hfin := Lib.hid (HA.out.bad Hx.out (finF_form h1 HO.out h3) (by decide))
              go_wp2_with fail
              refine (key_any x.paper _ hz1).mono ?_
              rintro e w1 ⟨rfl, hw1⟩
              have k0 := hw1.cell e0 trivial
              have k1 := hw1.cell e1 trivial
              have k2 := hw1.cell e2 trivial
              have k3 := hw1.cell e3 trivial
              have hwb := hwa.trans hw1
              have hcr1 := hcr'.keep RCred.ok hw1
              rw [h1]
              clear hwa hw1 hcr'
              go_wp2_with fail
              refine (named_any x.title 200 _ hz2 (HG.out.keep hwb)).mono ?_
              rintro e w2 ⟨rfl, hw2⟩
              have l0 := hw2.cell k0 trivial
              have l2 := hw2.cell k2 trivial
              have l3 := hw2.cell k3 trivial
              have hwc := hwb.trans hw2
              have hcr2 := hcr1.keep RCred.ok hw2
              rw [h3]
              clear hwb hw2 hcr1
              go_wp2_with fail
              go_ret
              exact ⟨ret_int' hfin.out.symm, hwc⟩
            | true =>
              by_cases hpg : x.pages < 1 ∨ 100 < x.pages
              · have hfin := Lib.hid (HA.out.bad Hx.out (finF_arg h1 HO.out h3 hpg) (by decide))
                have h4 : decide ((1 : Int) ≤ x.pages ∧ x.pages ≤ 100) = false := by simp; omega
                clear hpg
                go_wp2_with fail
                refine (key_any x.paper _ hz1).mono ?_
                rintro e w1 ⟨rfl, hw1⟩
                have k0 := hw1.cell e0 trivial
                have k1 := hw1.cell e1 trivial
                have k2 := hw1.cell e2 trivial
                have k3 := hw1.cell e3 trivial
                have hwb := hwa.trans hw1
                have hcr1 := hcr'.keep RCred.ok hw1
                rw [h1]
                clear hwa hw1 hcr'
                go_wp2_with fail
                refine (named_any x.title 200 _ hz2 (HG.out.keep hwb)).mono ?_
                rintro e w2 ⟨rfl, hw2⟩
                have l0 := hw2.cell k0 trivial
                have l2 := hw2.cell k2 trivial
                have l3 := hw2.cell k3 trivial
                have hwc := hwb.trans hw2
                have hcr2 := hcr1.keep RCred.ok hw2
                rw [h3]
                clear hwb hw2 hcr1
                go_wp2_with fail
                refine (in_any _ _ _ _).mono ?_
                rintro e w' ⟨rfl, rfl⟩
                rw [h4]
                go_wp2_with fail
                go_ret
                exact ⟨ret_int' hfin.out.symm, hwc⟩
              · have h4 : decide ((1 : Int) ≤ x.pages ∧ x.pages ≤ 100) = true := by simp; omega
                have hcf := Lib.hid (finF_cred h1 HO.out h3 hpg)
                clear hpg
                by_cases hc0 : x.credits.length = 0
                · have hfin := Lib.hid (HA.out.bad Hx.out (hcf.out.trans (creditsF_none hc0)) (by decide))
                  have h5 : ((x.credits.length : Int) == 0) = true := by simp [hc0]
                  clear hc0
                  go_wp2_with fail
                  refine (key_any x.paper _ hz1).mono ?_
                  rintro e w1 ⟨rfl, hw1⟩
                  have k0 := hw1.cell e0 trivial
                  have k1 := hw1.cell e1 trivial
                  have k2 := hw1.cell e2 trivial
                  have k3 := hw1.cell e3 trivial
                  have hwb := hwa.trans hw1
                  have hcr1 := hcr'.keep RCred.ok hw1
                  rw [h1]
                  clear hwa hw1 hcr'
                  go_wp2_with fail
                  refine (named_any x.title 200 _ hz2 (HG.out.keep hwb)).mono ?_
                  rintro e w2 ⟨rfl, hw2⟩
                  have l0 := hw2.cell k0 trivial
                  have l2 := hw2.cell k2 trivial
                  have l3 := hw2.cell k3 trivial
                  have hwc := hwb.trans hw2
                  have hcr2 := hcr1.keep RCred.ok hw2
                  rw [h3]
                  clear hwb hw2 hcr1
                  go_wp2_with fail
                  refine (in_any _ _ _ _).mono ?_
                  rintro e w' ⟨rfl, rfl⟩
                  rw [h4]
                  go_wp2_with fail
                  go_ret
                  exact ⟨ret_int' hfin.out.symm, hwc⟩
                · have h5 : ((x.credits.length : Int) == 0) = false := by simp; exact fun e => hc0 (by rw [e]; rfl)
                  by_cases hc20 : 20 < x.credits.length
                  · have hfin := Lib.hid (HA.out.bad Hx.out (hcf.out.trans (creditsF_large hc20)) (by decide))
                    have h5' : decide ((20 : Int) < (x.credits.length : Int)) = true := by simp; omega
                    clear hc0
                    go_wp2_with fail
                    refine (key_any x.paper _ hz1).mono ?_
                    rintro e w1 ⟨rfl, hw1⟩
                    have k0 := hw1.cell e0 trivial
                    have k1 := hw1.cell e1 trivial
                    have k2 := hw1.cell e2 trivial
                    have k3 := hw1.cell e3 trivial
                    have hwb := hwa.trans hw1
                    have hcr1 := hcr'.keep RCred.ok hw1
                    rw [h1]
                    clear hwa hw1 hcr'
                    go_wp2_with fail
                    refine (named_any x.title 200 _ hz2 (HG.out.keep hwb)).mono ?_
                    rintro e w2 ⟨rfl, hw2⟩
                    have l0 := hw2.cell k0 trivial
                    have l2 := hw2.cell k2 trivial
                    have l3 := hw2.cell k3 trivial
                    have hwc := hwb.trans hw2
                    have hcr2 := hcr1.keep RCred.ok hw2
                    rw [h3]
                    clear hwb hw2 hcr1
                    go_wp2_with fail
                    refine (in_any _ _ _ _).mono ?_
                    rintro e w' ⟨rfl, rfl⟩
                    rw [h4]
                    go_wp2_with fail
                    go_ret
                    exact ⟨ret_int' hfin.out.symm, hwc⟩
                  · have h5' : decide ((20 : Int) < (x.credits.length : Int)) = false := by simp; omega
                    have HF0 := Lib.hid (hcf.out.trans (creditsF_some hc0 hc20))
                    clear hc0
                    go_wp2_with fail
                    refine (key_any x.paper _ hz1).mono ?_
                    rintro e w1 ⟨rfl, hw1⟩
                    have k0 := hw1.cell e0 trivial
                    have k1 := hw1.cell e1 trivial
                    have k2 := hw1.cell e2 trivial
                    have k3 := hw1.cell e3 trivial
                    have hwb := hwa.trans hw1
                    have hcr1 := hcr'.keep RCred.ok hw1
                    rw [h1]
                    clear hwa hw1 hcr'
                    go_wp2_with fail
                    refine (named_any x.title 200 _ hz2 (HG.out.keep hwb)).mono ?_
                    rintro e w2 ⟨rfl, hw2⟩
                    have l0 := hw2.cell k0 trivial
                    have l2 := hw2.cell k2 trivial
                    have l3 := hw2.cell k3 trivial
                    have hwc := hwb.trans hw2
                    have hcr2 := hcr1.keep RCred.ok hw2
                    rw [h3]
                    clear hwb hw2 hcr1
                    go_wp2_with fail
                    refine (in_any _ _ _ _).mono ?_
                    rintro e w' ⟨rfl, rfl⟩
                    rw [h4]
                    go_wp2_with fail
                    go_loopw [52] (fun i wr => ∃ j : Nat, j ≤ x.credits.length ∧ i = .int .i64 j ∧ CredAt x.credits j ∧ wr.cell? ⟨wo.heap.size, 3, none⟩ = some (.slice ac x.credits.length cc) ∧ All w2 wr) (fun i _ => x.credits.length - (intOf i).toNat)
                    case atStart => exact ⟨0, Nat.zero_le _, rfl, CredAt.zero _, l3, Kept.refl _ _⟩
                    case round =>
                      obtain ⟨j, hj, rfl, hcat, n3, hw2i⟩ := hrel
                      obtain ⟨wi, rfl⟩ : ∃ wi : World, wi = wr := ⟨_, rfl⟩
                      have hcri := hcr2.keep RCred.ok hw2i
                      clear l0 l2 l3 k0 k1 k2 k3
                      by_cases hjl : j < x.credits.length
                      · have hjc1 : (0 : Int) ≤ (j : Int) := by omega
                        have hjc2 : (j : Int) ≤ (cc : Int) := by omega
                        have htk : Sl RCred 2 (fun _ => True) wi ac j (x.credits.take j) := hcri.take (by omega)
                        obtain ⟨bc, ofc, y, hac, -, q0, q1, hy1, hy2, hy, -, -⟩ := hcri.atCred hjl
                        subst hac
                        have HC := Lib.hid hcat
                        have Hy := Lib.hid hy
                        have hwi := hw2i.then_alloc (.cells #[.string y.key, .string y.name] 61)
                        have hblk := heap_at wi (.cells #[.string y.key, .string y.name] 61) _ rfl
                        have htk' := htk.keep RCred.ok (Kept.alloc (fun _ => True) wi (.cells #[.string y.key, .string y.name] 61))
                        have d0 := cell_at (i := 0) hblk rfl
                        have d1 := cell_at (i := 1) hblk rfl
                        have hlt3 := lt_of_cell n3
                        dsimp only at hlt3
                        clear hblk htk hcat hy hcri hw2i
                        cases h6 : isKeyB y.key with
                        | false =>
                          have hfin := Lib.hid (HA.out.bad Hx.out (HF0.out.trans (HC.out.name Hy.out h6)) (by decide))
                          go_wp2_with fail
                          refine (key_any y.key _ hy1).mono ?_
                          rintro e w3 ⟨rfl, hw3⟩
                          have m0 := hw3.cell d0 trivial
                          have m1 := hw3.cell d1 trivial
                          have m3 := hw3.cell (Kept.cell (F := fun _ => True) (Kept.alloc _ _ _) n3 trivial) trivial
                          have hwd := hwi.trans hw3
                          have htk3 := htk'.keep RCred.ok hw3
                          rw [h6]
                          clear hwi hw3 htk'
                          go_wp2_with fail
                          go_ret
                          exact ⟨ret_int' hfin.out.symm, hwc.trans hwd⟩
                        | true =>
                          cases h7 : (x.credits.take j).any (hasKey y.key) with
                          | true =>
                            have hfin := Lib.hid (HA.out.bad Hx.out (HF0.out.trans (HC.out.twice Hy.out h6 h7)) (by decide))
                            go_wp2_with fail
                            refine (key_any y.key _ hy1).mono ?_
                            rintro e w3 ⟨rfl, hw3⟩
                            have m0 := hw3.cell d0 trivial
                            have m1 := hw3.cell d1 trivial
                            have m3 := hw3.cell (Kept.cell (F := fun _ => True) (Kept.alloc _ _ _) n3 trivial) trivial
                            have hwd := hwi.trans hw3
                            have htk3 := htk'.keep RCred.ok hw3
                            rw [h6]
                            clear hwi hw3 htk'
                            have hans : AnswersC Tryz.prog 67 #[.pointer (some ⟨wi.heap.size, 0, none⟩)] w3 (hasKey y.key) := fun z wx hwx => finalsFault1_any _ y.key z wx (hwx.cell m0 trivial)
                            have HF := Lib.hid (containsCred_any 67 _ eg (hasKey y.key) (some ⟨bc, ofc, none⟩) j cc (x.credits.take j) _ htk3 (by omega) hans)
                            have hmf' := hmfC
                            clear hans htk3
                            go_wp2_with fail
                            refine HF.out.mono ?_
                            rintro e w4 ⟨rfl, hw4⟩
                            have o1 := hw4.cell m1 trivial
                            have o3 := hw4.cell m3 trivial
                            have hwe := hwd.trans hw4
                            rw [h7]
                            clear hwd hw4 HF hmf'
                            go_wp2_with fail
                            go_ret
                            exact ⟨ret_int' hfin.out.symm, hwc.trans hwe⟩
                          | false =>
                            cases h8 : lineB y.name 100 with
                            | false =>
                              have hfin := Lib.hid (HA.out.bad Hx.out (HF0.out.trans (HC.out.form Hy.out h6 h7 h8)) (by decide))
                              go_wp2_with fail
                              refine (key_any y.key _ hy1).mono ?_
                              rintro e w3 ⟨rfl, hw3⟩
                              have m0 := hw3.cell d0 trivial
                              have m1 := hw3.cell d1 trivial
                              have m3 := hw3.cell (Kept.cell (F := fun _ => True) (Kept.alloc _ _ _) n3 trivial) trivial
                              have hwd := hwi.trans hw3
                              have htk3 := htk'.keep RCred.ok hw3
                              rw [h6]
                              clear hwi hw3 htk'
                              have hans : AnswersC Tryz.prog 67 #[.pointer (some ⟨wi.heap.size, 0, none⟩)] w3 (hasKey y.key) := fun z wx hwx => finalsFault1_any _ y.key z wx (hwx.cell m0 trivial)
                              have HF := Lib.hid (containsCred_any 67 _ eg (hasKey y.key) (some ⟨bc, ofc, none⟩) j cc (x.credits.take j) _ htk3 (by omega) hans)
                              have hmf' := hmfC
                              clear hans htk3
                              go_wp2_with fail
                              refine HF.out.mono ?_
                              rintro e w4 ⟨rfl, hw4⟩
                              have o1 := hw4.cell m1 trivial
                              have o3 := hw4.cell m3 trivial
                              have hwe := hwd.trans hw4
                              rw [h7]
                              clear hwd hw4 HF hmf'
                              go_wp2_with fail
                              refine (named_any y.name 100 _ hy2 (HG.out.keep (hwc.trans hwe))).mono ?_
                              rintro e w5 ⟨rfl, hw5⟩
                              have p3 := hw5.cell o3 trivial
                              have hwf := hwe.trans hw5
                              rw [h8]
                              clear hwe hw5
                              go_wp2_with fail
                              go_ret
                              exact ⟨ret_int' hfin.out.symm, hwc.trans hwf⟩
                            | true =>
                              have hnx := Lib.hid (HC.out.next Hy.out h6 h7 h8)
                              go_wp2_with fail
                              refine (key_any y.key _ hy1).mono ?_
                              rintro e w3 ⟨rfl, hw3⟩
                              have m0 := hw3.cell d0 trivial
                              have m1 := hw3.cell d1 trivial
                              have m3 := hw3.cell (Kept.cell (F := fun _ => True) (Kept.alloc _ _ _) n3 trivial) trivial
                              have hwd := hwi.trans hw3
                              have htk3 := htk'.keep RCred.ok hw3
                              rw [h6]
                              clear hwi hw3 htk'
                              have hans : AnswersC Tryz.prog 67 #[.pointer (some ⟨wi.heap.size, 0, none⟩)] w3 (hasKey y.key) := fun z wx hwx => finalsFault1_any _ y.key z wx (hwx.cell m0 trivial)
                              have HF := Lib.hid (containsCred_any 67 _ eg (hasKey y.key) (some ⟨bc, ofc, none⟩) j cc (x.credits.take j) _ htk3 (by omega) hans)
                              have hmf' := hmfC
                              clear hans htk3
                              go_wp2_with fail
                              refine HF.out.mono ?_
                              rintro e w4 ⟨rfl, hw4⟩
                              have o1 := hw4.cell m1 trivial
                              have o3 := hw4.cell m3 trivial
                              have hwe := hwd.trans hw4
                              rw [h7]
                              clear hwd hw4 HF hmf'
                              go_wp2_with fail
                              refine (named_any y.name 100 _ hy2 (HG.out.keep (hwc.trans hwe))).mono ?_
                              rintro e w5 ⟨rfl, hw5⟩
                              have p3 := hw5.cell o3 trivial
                              have hwf := hwe.trans hw5
                              rw [h8]
                              clear hwe hw5
                              go_wp2_with fail
                              go_roundw
                              case rel => exact ⟨j + 1, by omega, by go_num, hnx.out, p3, hwf⟩
                              case measure => simp [intOf]; omega
                      · have hdj : decide ((j : Int) < (x.credits.length : Int)) = false := by simp; omega
                        have hnx := Lib.hid (HA.out.next Hx.out (HF0.out.trans (hcat.ok (by omega))))
                        have hl1 := Lib.hid (lastP_succ Hx.out)
                        go_wp2_with fail
                        go_roundw
                        case rel => exact ⟨k + 1, by omega, by go_num, by rw [hl1.out]; rfl, hnx.out, hwc.trans hw2i⟩
                        case measure => simp [intOf]; omega
      · have hd : decide ((k : Int) < (len : Int)) = false := by simp; omega
        have hfin := Lib.hid (hat.ok (by have := Hlen.out; omega))
        clear hlp
        go_wp2_with fail
        go_ret
        exact ⟨ret_int' hfin.out.symm, hall⟩
end Go.Proofs.YtbpbhpmkganefaaGreatDoor
