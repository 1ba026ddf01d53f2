/- The law SheetChecks, walked. -/
import Derived.Test.YtdgpminhkiilfaaGreatDoorAf
import Derived.Test.YtdgpminhkiilfaaGreatDoorAi
import Derived.Test.YtdgpminhkiilfaaGreatDoorAj
import Derived.Test.YtdgpminhkiilfaaGreatDoorAk
import Derived.Test.YtdgpminhkiilfaaGreatDoorWb
namespace Go.Proofs.YtdgpminhkiilfaaGreatDoor
open Go.RowKit

theorem Glob.tab {w : World} (h : Glob w) : Tabs w := ⟨h.tabs⟩
theorem Glob.lt {w : World} (h : Glob w) : 0 < w.heap.size ∧ 1 < w.heap.size ∧ 2 < w.heap.size := by
  obtain ⟨m, hm⟩ := h.most
  exact ⟨lt_of_cell (h.tabs.1 0 (by decide)), lt_of_cell (h.tabs.2 0 (by decide)).1, lt_of_cell hm⟩
theorem StrsErr.slice {ss : List ByteArray} {z : Int} {w w' : World} {e : Ending} (h : StrsErr ss z w e w') : ∃ a c, e = .returned (.tuple #[.slice a ss.length c, .int .i64 z]) ∧ Sl RStr 1 (fun _ => True) w' a ss.length ss ∧ All w w' := by
  obtain ⟨v, h1, h2, h3⟩ := h
  obtain ⟨a, c, rfl, hs⟩ := h2.sl RStr.ok (by decide) (G := fun _ => True) (fun _ h => h.elim) (fun _ _ => trivial)
  exact ⟨a, c, h1, hs, h3⟩
theorem StrsPost.slice {ss : List ByteArray} {w w' : World} {e : Ending} (h : StrsPost ss w e w') : ∃ a c, e = .returned (.slice a ss.length c) ∧ Sl RStr 1 (fun _ => True) w' a ss.length ss ∧ All w w' := by
  obtain ⟨v, h1, h2, h3⟩ := h
  obtain ⟨a, c, rfl, hs⟩ := h2.sl RStr.ok (by decide) (G := fun _ => True) (fun _ h => h.elim) (fun _ _ => trivial)
  exact ⟨a, c, h1, hs, h3⟩

set_option maxRecDepth 100000 in
set_option maxHeartbeats 12800000 in
theorem sheetChecks_walk (a : Option Addr) (len cap : Nat) (w : World) (h : IsRow w a len cap) (hG : Glob w) :
    Calls Tryz.prog 3 #[.slice a len cap] w fun e w' => e = .returned (.bool true) ∧ Below w.heap.size w w' := by
  have hst := h.start
  obtain ⟨σ, hσ⟩ : ∃ σ : St, σ = ⟨w.heap.size, a, len, cap⟩ := ⟨_, rfl⟩
  have hσb : σ.b = w.heap.size := by rw [hσ]
  rw [← hσ] at hst
  have hptr : (Value.pointer (some ⟨w.heap.size, 0, none⟩)) = Value.pointer (some ⟨σ.b, 0, none⟩) := by rw [hσb]
  have Hptr := Lib.hid hptr
  have Hσ := Lib.hid hσb
  have hk0 : But σ.b w (w.alloc (.cells #[.slice a len cap, .int .i64 0] 25)) := Kept.alloc _ _ _
  have hgl := hG.lt
  have HG := Lib.hid (fun (wx : World) (k : But σ.b w wx) => hG.kept k (by omega) (by omega) (by omega))
  clear hσ hσb hptr h hG hgl
  go_enter Tryz.func3, Tryz.ntmps3
  go_upto_region 2 with fail
  simp only [Hptr.out]
  generalize w.alloc (.cells #[.slice a len cap, .int .i64 0] 25) = w0 at *
  have hl0 := hst.lt
  go_wp2_with fail
  refine (sheet_any σ 0 _ hst (by omega)).mono ?_
  rintro e w1 ⟨v, n1, rfl, ⟨xs, -, hx2, acx⟩, -, hn1, hs1, hb1⟩
  obtain ⟨ax, cx, rfl, slx⟩ := acx.sl RQst.ok (by decide) (G := fun k => k ≠ σ.b) (fun _ h => h) (fun k hk => by have := (acx.lt k hk).1; omega)
  obtain ⟨lx, hlx⟩ : ∃ l, l = xs.length := ⟨_, rfl⟩
  have HLX := Lib.hid hlx
  rw [← hlx] at slx hx2 ⊢
  have hk1 := hk0.trans hb1
  clear hlx acx hst hb1 hk0
  have hl1 := hs1.lt
  go_wp2_with fail
  refine (answers_any σ n1 _ ax lx cx xs hs1 (by omega) slx (by omega)).mono ?_
  rintro e w2 ⟨v, n2, rfl, ⟨ya, hya, aca⟩, -, hn2, hs2, hb2⟩
  obtain ⟨aa, ca, rfl, sla⟩ := aca.sl RAns.ok (by decide) (G := fun k => k ≠ σ.b) (fun _ h => h.elim) (fun k hk => by have := (aca.lt k hk).1; omega)
  obtain ⟨la, hla⟩ : ∃ l, l = ya.length := ⟨_, rfl⟩
  have HLA := Lib.hid hla
  rw [← hla] at sla hya ⊢
  have hk2 := hk1.trans hb2
  have slx2 := slx.keep RQst.ok hb2
  clear hla aca hs1 hb2 hk1 slx
  have hl2 := hs2.lt
  go_wp2_with fail
  refine (answers_any σ n2 _ ax lx cx xs hs2 (by omega) slx2 (by omega)).mono ?_
  rintro e w3 ⟨v, n3, rfl, ⟨yb, hyb, acb⟩, -, -, hs3, hb3⟩
  obtain ⟨ab, cb, rfl, slb⟩ := acb.sl RAns.ok (by decide) (G := fun k => k ≠ σ.b) (fun _ h => h.elim) (fun k hk => by have := (acb.lt k hk).1; omega)
  obtain ⟨lb, hlb⟩ : ∃ l, l = yb.length := ⟨_, rfl⟩
  have HLB := Lib.hid hlb
  rw [← hlb] at slb hyb ⊢
  clear hlb acb
  have hk3 := hk2.trans hb3
  have hx3 := (slx2.keep RQst.ok hb3).mono RQst.ok (G := fun _ => True) (fun _ _ => trivial)
  have ha3 := (sla.keep RAns.ok hb3).mono RAns.ok (G := fun _ => True) (fun _ _ => trivial)
  have hb3' := slb.mono RAns.ok (G := fun _ => True) (fun _ _ => trivial)
  have hG3 := HG.out w3 hk3
  have hend := Lib.hid (show ∀ wx, All w3 wx → Below w.heap.size w wx from fun wx k => (hk3.trans k.all).below (Nat.le_refl _) (fun k hk => by have := Hσ.out; omega))
  have M1 := Lib.hid (fun (wx : World) (k : All w3 wx) => missing_any ax lx cx xs aa la ca ya wx (hx3.keep RQst.ok k) (by omega) (ha3.keep RAns.ok k) (by omega) (hG3.tab.keep k))
  have M2 := Lib.hid (fun (wx : World) (k : All w3 wx) => differ_any ax lx cx xs aa la ca ya ab lb cb yb wx (hx3.keep RQst.ok k) (by omega) (ha3.keep RAns.ok k) (by omega) (hb3'.keep RAns.ok k) (by omega) (hG3.tab.keep k))
  have M3 := Lib.hid (fun (wx : World) (k : All w3 wx) => sheetFault_any ax lx cx xs wx (hx3.keep RQst.ok k) (by omega))
  have M4 := Lib.hid (fun (wx : World) (k : All w3 wx) => checkSheet_any ax lx cx xs wx (hx3.keep RQst.ok k) (by omega))
  have M5 := Lib.hid (fun (wx : World) (k : All w3 wx) => answersFaultR_any ax lx cx xs aa la ca ya wx (hx3.keep RQst.ok k) (by omega) (ha3.keep RAns.ok k) (hG3.tab.keep k))
  have M6 := Lib.hid (fun (wx : World) (k : All w3 wx) => answersFaultR_any ax lx cx xs ab lb cb yb wx (hx3.keep RQst.ok k) (by omega) (hb3'.keep RAns.ok k) (hG3.tab.keep k))
  have M7 := Lib.hid (fun (wx : World) (k : All w3 wx) => missingOf_any ax lx cx xs aa la ca ya wx (hx3.keep RQst.ok k) (by omega) (ha3.keep RAns.ok k) (by omega))
  have M8 := Lib.hid (fun (wx : World) (k : All w3 wx) => differOf_any ax lx cx xs aa la ca ya ab lb cb yb wx (hx3.keep RQst.ok k) (by omega) (ha3.keep RAns.ok k) (by omega) (hb3'.keep RAns.ok k) (by omega))
  have M9 := Lib.hid (fun (wx : World) (k : All w3 wx) => asked_any wx (hG3.keep k))
  have hml := Lib.hid (missF_len xs ya)
  have hdl := Lib.hid (differF_len xs ya yb)
  have HE := Lib.hid (show missE xs ya = if sheetF xs ≠ 0 then sheetF xs else answersF xs ya from rfl)
  have HED := Lib.hid (show differE xs ya yb = if missE xs ya ≠ 0 then missE xs ya else answersF xs yb from rfl)
  have hlx4 : lx ≤ 5 := hx2
  obtain ⟨z1, hz1⟩ : ∃ z, z = sheetF xs := ⟨_, rfl⟩
  obtain ⟨z2, hz2⟩ : ∃ z, z = answersF xs ya := ⟨_, rfl⟩
  obtain ⟨z3, hz3⟩ : ∃ z, z = answersF xs yb := ⟨_, rfl⟩
  rw [← hz1] at M3 M4 HE
  rw [← hz2] at M5 HE
  rw [← hz3] at M6 HED
  clear hz1 hz2 hz3 hx3 ha3 hb3' hG3 hs2 hs3 hb3 hk2 hk3 sla slb slx2 hx2 hya hyb hn1 hn2 hl0 hl1 hl2 HG Hptr
  by_cases h1 : z1 = 0
  · subst h1
    by_cases h2 : z2 = 0
    · subst h2
      by_cases h3 : z3 = 0
      · subst h3
        have E1 := Lib.hid (HE.out.trans (if_neg (by simp)))
        have E2 := Lib.hid (HED.out.trans (if_neg (by rw [E1.out]; simp)))
        go_wp2_with fail
        refine (M1.out _ (Kept.refl _ _)).mono ?_
        intro e w4 hp4
        rw [E1.out, if_pos rfl] at hp4
        obtain ⟨am, cm, rfl, hsm, hw4⟩ := hp4.slice
        clear hp4
        obtain ⟨mm, hmm⟩ : ∃ n, n = (missF xs ya).length := ⟨_, rfl⟩
        have Hmm := Lib.hid hmm
        rw [← hmm] at hsm ⊢
        have mm5 : mm ≤ 1000000 := by have := hml.out; have := HLX.out; omega
        clear hmm
        go_wp2_with fail
        refine (M2.out _ hw4).mono ?_
        intro e w5 hp5
        rw [E2.out, if_pos rfl] at hp5
        obtain ⟨ad, cd, rfl, hsd, hw5'⟩ := hp5.slice
        have hw5 := hw4.trans hw5'
        clear hp5
        obtain ⟨dd, hdd⟩ : ∃ n, n = (differF xs ya yb).length := ⟨_, rfl⟩
        have Hdd := Lib.hid hdd
        rw [← hdd] at hsd ⊢
        have dd5 : dd ≤ 1000000 := by have := hdl.out; have := HLX.out; omega
        clear hdd
        have SLmm := Lib.hid (fun (wx : World) (k : All w5 wx) => (hsm.keep RStr.ok hw5').keep RStr.ok k)
        have SLdd := Lib.hid (fun (wx : World) (k : All w5 wx) => hsd.keep RStr.ok k)
        clear hsm hsd
        go_wp2_with fail
        refine (M3.out _ hw5).mono ?_
        rintro e w6 ⟨rfl, hw6'⟩
        have hw6 := hw5.trans hw6'
        go_wp2_with fail
        refine (M4.out _ hw6).mono ?_
        rintro e w7 ⟨rfl, hw7'⟩
        have hw7 := hw6.trans hw7'
        go_wp2_with fail
        refine (M5.out _ hw7).mono ?_
        rintro e w8 ⟨rfl, hw8'⟩
        have hw8 := hw7.trans hw8'
        go_wp2_with fail
        refine (M6.out _ hw8).mono ?_
        rintro e w9 ⟨rfl, hw9'⟩
        have hw9 := hw8.trans hw9'
        go_wp2_with fail
        refine (M7.out _ hw9).mono ?_
        intro e w10 hp
        obtain ⟨aq, cq, rfl, hsq, hw10'⟩ := hp.slice
        have hw10 := hw9.trans hw10'
        clear hp
        rw [← Hmm.out] at hsq ⊢
        go_wp2_with fail
        refine (equalStr_same am mm cm aq mm cq (missF xs ya) _ (SLmm.out _ ((((hw6'.trans hw7').trans hw8').trans hw9').trans hw10')) hsq mm5).mono ?_
        rintro e wq10 ⟨rfl, hq⟩
        have hw11 := hw10.trans hq
        clear hsq
        have hw511 := (((((hw6'.trans hw7').trans hw8').trans hw9').trans hw10').trans hq)
        go_wp2_with fail
        refine (M8.out _ hw11).mono ?_
        intro e w12 hp
        obtain ⟨aq, cq, rfl, hsq, hw12'⟩ := hp.slice
        have hw12 := hw11.trans hw12'
        clear hp
        rw [← Hdd.out] at hsq ⊢
        go_wp2_with fail
        refine (equalStr_same ad dd cd aq dd cq (differF xs ya yb) _ (SLdd.out _ (hw511.trans hw12')) hsq dd5).mono ?_
        rintro e wq12 ⟨rfl, hq⟩
        have hw13 := hw12.trans hq
        clear hsq
        go_wp2_with fail
        refine (M9.out _ hw13).mono ?_
        rintro e wz ⟨rfl, hwz⟩
        go_wp2_with fail
        go_ret
        exact ⟨rfl, hend.out _ (hw13.trans hwz)⟩
      · have E1 := Lib.hid (HE.out.trans (if_neg (by simp)))
        have E2 := Lib.hid (HED.out.trans (if_neg (by rw [E1.out]; simp)))
        have hne2 : ¬ z3 = 0 := h3
        have hd : (z3 == 0) = false := by simpa using h3
        have hd2 : (z3 != 0) = true := by simpa using h3
        go_wp2_with fail
        refine (M1.out _ (Kept.refl _ _)).mono ?_
        intro e w4 hp4
        rw [E1.out, if_pos rfl] at hp4
        obtain ⟨am, cm, rfl, hsm, hw4⟩ := hp4.slice
        clear hp4
        obtain ⟨mm, hmm⟩ : ∃ n, n = (missF xs ya).length := ⟨_, rfl⟩
        have Hmm := Lib.hid hmm
        rw [← hmm] at hsm ⊢
        have mm5 : mm ≤ 1000000 := by have := hml.out; have := HLX.out; omega
        clear hmm
        have SLmm := Lib.hid (fun (wx : World) (k : All w3 wx) => hsm)
        clear SLmm
        go_wp2_with fail
        refine (M2.out _ hw4).mono ?_
        intro e w5 hp5
        rw [E2.out, if_neg hne2] at hp5
        obtain ⟨ad, cd, rfl, hsd, hw5'⟩ := hp5.slice
        have hw5 := hw4.trans hw5'
        clear hp5
        simp only [List.length_nil]
        clear hsd
        clear hne2
        have SLmm := Lib.hid (fun (wx : World) (k : All w5 wx) => (hsm.keep RStr.ok hw5').keep RStr.ok k)
        clear hsm
        go_wp2_with fail
        refine (M3.out _ hw5).mono ?_
        rintro e w6 ⟨rfl, hw6'⟩
        have hw6 := hw5.trans hw6'
        go_wp2_with fail
        refine (M4.out _ hw6).mono ?_
        rintro e w7 ⟨rfl, hw7'⟩
        have hw7 := hw6.trans hw7'
        go_wp2_with fail
        refine (M5.out _ hw7).mono ?_
        rintro e w8 ⟨rfl, hw8'⟩
        have hw8 := hw7.trans hw8'
        go_wp2_with fail
        refine (M6.out _ hw8).mono ?_
        rintro e w9 ⟨rfl, hw9'⟩
        have hw9 := hw8.trans hw9'
        go_wp2_with fail
        refine (M7.out _ hw9).mono ?_
        intro e w10 hp
        obtain ⟨aq, cq, rfl, hsq, hw10'⟩ := hp.slice
        have hw10 := hw9.trans hw10'
        clear hp
        rw [← Hmm.out] at hsq ⊢
        go_wp2_with fail
        refine (equalStr_same am mm cm aq mm cq (missF xs ya) _ (SLmm.out _ ((((hw6'.trans hw7').trans hw8').trans hw9').trans hw10')) hsq mm5).mono ?_
        rintro e wq10 ⟨rfl, hq⟩
        have hw11 := hw10.trans hq
        clear hsq
        go_wp2_with fail
        refine (M9.out _ hw11).mono ?_
        rintro e wz ⟨rfl, hwz⟩
        go_wp2_with fail
        go_ret
        exact ⟨rfl, hend.out _ (hw11.trans hwz)⟩
    · have E1 := Lib.hid (HE.out.trans (if_neg (by simp)))
      have E2 := Lib.hid (HED.out.trans ((if_pos (by rw [E1.out]; exact h2)).trans E1.out))
      have hne1 : ¬ z2 = 0 := h2
      have hne2 : ¬ z2 = 0 := h2
      have hd : (z2 == 0) = false := by simpa using h2
      have hd2 : (z2 != 0) = true := by simpa using h2
      go_wp2_with fail
      refine (M1.out _ (Kept.refl _ _)).mono ?_
      intro e w4 hp4
      rw [E1.out, if_neg hne1] at hp4
      obtain ⟨am, cm, rfl, hsm, hw4⟩ := hp4.slice
      clear hp4
      simp only [List.length_nil]
      clear hsm
      go_wp2_with fail
      refine (M2.out _ hw4).mono ?_
      intro e w5 hp5
      rw [E2.out, if_neg hne2] at hp5
      obtain ⟨ad, cd, rfl, hsd, hw5'⟩ := hp5.slice
      have hw5 := hw4.trans hw5'
      clear hp5
      simp only [List.length_nil]
      clear hsd
      clear hne1 hne2
      go_wp2_with fail
      refine (M3.out _ hw5).mono ?_
      rintro e w6 ⟨rfl, hw6'⟩
      have hw6 := hw5.trans hw6'
      go_wp2_with fail
      refine (M4.out _ hw6).mono ?_
      rintro e w7 ⟨rfl, hw7'⟩
      have hw7 := hw6.trans hw7'
      go_wp2_with fail
      refine (M5.out _ hw7).mono ?_
      rintro e w8 ⟨rfl, hw8'⟩
      have hw8 := hw7.trans hw8'
      go_wp2_with fail
      refine (M9.out _ hw8).mono ?_
      rintro e wz ⟨rfl, hwz⟩
      go_wp2_with fail
      go_ret
      exact ⟨rfl, hend.out _ (hw8.trans hwz)⟩
  · have E1 := Lib.hid (HE.out.trans (if_pos h1))
    have E2 := Lib.hid (HED.out.trans ((if_pos (by rw [E1.out]; exact h1)).trans E1.out))
    have hne1 : ¬ z1 = 0 := h1
    have hne2 : ¬ z1 = 0 := h1
    have hd : (z1 == 0) = false := by simpa using h1
    have hd2 : (z1 != 0) = true := by simpa using h1
    go_wp2_with fail
    refine (M1.out _ (Kept.refl _ _)).mono ?_
    intro e w4 hp4
    rw [E1.out, if_neg hne1] at hp4
    obtain ⟨am, cm, rfl, hsm, hw4⟩ := hp4.slice
    clear hp4
    simp only [List.length_nil]
    clear hsm
    go_wp2_with fail
    refine (M2.out _ hw4).mono ?_
    intro e w5 hp5
    rw [E2.out, if_neg hne2] at hp5
    obtain ⟨ad, cd, rfl, hsd, hw5'⟩ := hp5.slice
    have hw5 := hw4.trans hw5'
    clear hp5
    simp only [List.length_nil]
    clear hsd
    clear hne1 hne2
    go_wp2_with fail
    refine (M3.out _ hw5).mono ?_
    rintro e w6 ⟨rfl, hw6'⟩
    have hw6 := hw5.trans hw6'
    go_wp2_with fail
    refine (M4.out _ hw6).mono ?_
    rintro e w7 ⟨rfl, hw7'⟩
    have hw7 := hw6.trans hw7'
    go_wp2_with fail
    refine (M9.out _ hw7).mono ?_
    rintro e wz ⟨rfl, hwz⟩
    go_wp2_with fail
    go_ret
    exact ⟨rfl, hend.out _ (hw7.trans hwz)⟩
end Go.Proofs.YtdgpminhkiilfaaGreatDoor
