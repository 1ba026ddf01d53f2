/- The law MeetingMoves, walked. -/
import Derived.Test.YtllkemadaemjeaaGreatDoorDi
import Derived.Test.YtllkemadaemjeaaGreatDoorDj
import Derived.Test.YtllkemadaemjeaaGreatDoorDl
import Derived.Test.YtllkemadaemjeaaGreatDoorUc
import Derived.Test.YtllkemadaemjeaaGreatDoorZg
import Derived.Test.YtllkemadaemjeaaGreatDoorRk
import Derived.Test.YtllkemadaemjeaaGreatDoorWb
namespace Go.Proofs.YtllkemadaemjeaaGreatDoor
open Go.RowKit

theorem firstV_order (ss : List ByteArray) (ps : List Pair2) : firstV [orderF ss, pairsF ps] = orderE ss ps := by
  unfold orderE firstV firstV firstV
  split
  · rfl
  · split
    · rfl
    · rename_i h; omega

set_option maxRecDepth 100000 in
set_option maxHeartbeats 6400000 in
theorem meetingMoves_walk (a : Option Addr) (len cap : Nat) (w : World) (h : IsRow w a len cap) :
    Calls Tryz.prog 3 #[.slice a len cap] w fun e w' => e = .returned (.bool true) ∧ Below w.heap.size w w' := by
  have hst := h.start
  obtain ⟨σ, hσ⟩ : ∃ σ : St, σ = ⟨w.heap.size, a, len, cap⟩ := ⟨_, rfl⟩
  have hσb : σ.b = w.heap.size := by rw [hσ]
  rw [← hσ] at hst
  have Hσ := Lib.hid hσb
  have hptr : (Value.pointer (some ⟨w.heap.size, 0, none⟩)) = Value.pointer (some ⟨σ.b, 0, none⟩) := by rw [hσb]
  have Hptr := Lib.hid hptr
  have hk0 : Kept (fun k => k ≠ σ.b) w (w.alloc (.cells #[.slice a len cap, .int .i64 0] 25)) := Kept.alloc _ _ _
  clear hσ hσb hptr h
  go_enter Tryz.func3, Tryz.ntmps3
  go_wp2_with fail
  simp only [Hptr.out]
  generalize w.alloc (.cells #[.slice a len cap, .int .i64 0] 25) = w0 at *
  have hlt0 := hst.lt
  refine (ids10_any σ 0 _ hst (by omega)).mono ?_
  rintro e w1 ⟨v, n1, rfl, ⟨ids, hil, hacci⟩, hn1, hn2, hs1, hb1⟩
  have hk1 := hk0.trans hb1
  have hlt1 := hs1.lt
  obtain ⟨ai, ci, rfl, hsli⟩ := hacci.sl RStr.ok (by decide) (G := fun k => k ≠ σ.b) (fun _ h => h.elim) (fun k hk => by have := (hacci.lt k hk).1; omega)
  obtain ⟨li, hli⟩ : ∃ m, m = ids.length := ⟨_, rfl⟩
  rw [← hli] at hsli hil ⊢
  clear hst hk0 hb1 hli hacci
  go_wp2_with fail
  refine (leave_any σ n1 _ hs1 (by omega)).mono ?_
  rintro e w2 ⟨v, n2, rfl, ⟨ps, hpl, haccp⟩, hn3, hn4, hs2, hb2⟩
  obtain ⟨ap, cp, rfl, hslp⟩ := haccp.sl RPair.ok (by decide) (G := fun k => k ≠ σ.b) (fun _ h => h.elim) (fun k hk => by have := (haccp.lt k hk).1; omega)
  obtain ⟨lp, hlp⟩ : ∃ m, m = ps.length := ⟨_, rfl⟩
  rw [← hlp] at hslp hpl ⊢
  have hk2 := hk1.trans hb2
  have hsli2 := hsli.keep RStr.ok hb2
  have hlt2 := hs2.lt
  clear hlp haccp hs1 hk1 hb2 hsli
  go_wp2_with fail
  refine (order_any σ n2 li _ hs2 (by omega) (by omega)).mono ?_
  rintro e w3 ⟨v, n3, rfl, ⟨zs, haccz, hzl, hzr⟩, hn5, hn6, hs3, hb3⟩
  obtain ⟨az, cz, rfl, hslz⟩ := haccz.sl RInt.ok (by decide) (G := fun k => k ≠ σ.b) (fun _ h => h) (fun k hk => by have := (haccz.lt k hk).1; omega)
  rw [hzl] at hslz ⊢
  have hk3 := hk2.trans hb3
  have hsli3 := (hsli2.keep RStr.ok hb3).mono RStr.ok (G := fun _ => True) (fun _ _ => trivial)
  have hslp3 := (hslp.keep RPair.ok hb3).mono RPair.ok (G := fun _ => True) (fun _ _ => trivial)
  have hslz3 := hslz.mono RInt.ok (G := fun _ => True) (fun _ _ => trivial)
  have HZR := Lib.hid hzr
  have Hend := Lib.hid (show ∀ wx, All w3 wx → Below w.heap.size w wx from fun wx hw => (hk3.trans (Kept.all hw)).below (Nat.le_refl _) (fun k hk => by have := Hσ.out; omega))
  have HPS := Lib.hid (fun (wx : World) (k : All w3 wx) => hslp3.keep RPair.ok k)
  clear haccz hzl hzr hslz hs2 hs3 hk2 hk3 hb3 hsli2 hslp hslp3 hlt0 hlt1 hlt2 hn1 hn2 hn3 hn4 hn5 hn6
  go_wp2_with fail
  go_loopw [6, 26] (fun v i wr => ∃ k : Nat, k ≤ li ∧ i = .int .i64 k ∧ (∃ os : List ByteArray, os.length = k ∧ Acc RStr 1 9 (fun _ => False) w3.heap.size wr v os) ∧ All w3 wr) (fun _ i _ => li - (intOf i).toNat)
  case atStart => exact ⟨0, Nat.zero_le _, rfl, ⟨[], rfl, Acc.nil _ _ _ _ _ _⟩, Kept.refl _ _⟩
  case round =>
    obtain ⟨k, hk, rfl, ⟨os, hol, hacc⟩, hwr⟩ := hrel
    obtain ⟨wo, rfl⟩ : ∃ wo : World, wo = wr := ⟨_, rfl⟩
    obtain ⟨av, cv, rfl, hcv⟩ := hacc.form
    rw [hol] at hcv ⊢
    have HOL := Lib.hid hol
    rw [hol] at hacc
    clear hol
    by_cases hlt : k < li
    · obtain ⟨bz, oz, z, haz, -, cz0, hz, -, -⟩ := (hslz3.keep RInt.ok hwr).atInt hlt
      subst haz
      obtain ⟨hz0, hz1⟩ := HZR.out z (List.mem_of_getElem? hz)
      obtain ⟨j, rfl⟩ := Int.eq_ofNat_of_zero_le hz0
      have hj : j < li := by omega
      obtain ⟨bi, oi, y, hai, -, ci0, hyz, -, -, -⟩ := (hsli3.keep RStr.ok hwr).atStr hj
      subst hai
      have hw3 := hwr.size
      clear hz hz0 hz1 hsli3 hslz3
      go_wp2_with (at_builtin; refine wp_append1 RStr.ok _ rfl _ _ 26 rfl w3.heap.size 9 (.string ⟨#[]⟩) 1 16 Tryz.underlying26 (by kernel_rfl) rfl (by decide) (fun _ => False) _ os rfl (hacc.keepAll RStr.ok (Kept.alloc _ _ _)) ⟨_, 0, none⟩ 1 [.string y] rfl rfl (World.news_of_block (cs := #[.string y]) (heap_alloc_new wo _)) (by simp [Value.oneCell']) y ⟨rfl, hyz⟩ (by have := HOL.out; omega) (by decide) (by simp; omega) ?_)
      intro p' c' w9 hacc9 hg9 _
      have hk9 : All w3 w9 := (hwr.then_alloc _).grown hg9 (fun k hk => Or.inl (hacc.lt k hk).1)
      clear hg9 hacc
      go_wp2_with fail
      go_roundw
      case rel => exact ⟨k + 1, by omega, by go_num, ⟨os ++ [y], by simp [HOL.out], hacc9⟩, hk9⟩
      case measure => simp [intOf]; omega
    · have hd : decide ((k : Int) < (li : Int)) = false := by simp; omega
      obtain ⟨p, c, hv, hso⟩ := hacc.sl RStr.ok (by decide) (G := fun _ => True) (fun _ h => h.elim) (fun _ _ => trivial)
      rw [HOL.out] at hv hso
      have hpc : av = p ∧ cv = c := by cases hv; exact ⟨rfl, rfl⟩
      obtain ⟨hpa, hpb⟩ := hpc
      subst hpa
      subst hpb
      clear hv
      have HOS := Lib.hid (fun (wx : World) (k : All wo wx) => hso.keep RStr.ok k)
      have hk7 : k ≤ 7 := by omega
      have HE := Lib.hid (firstV_order os ps)
      have HEZ := Lib.hid (fun h => @orderE_zero os ps h)
      have hl5 : (stepsG ps [] os).length = k := by rw [stepsG_len]; exact HOL.out
      have HL5 := Lib.hid hl5
      clear hacc hso hslz3 hsli3 hl5
      obtain ⟨f1, hf1⟩ : ∃ f, f = orderF os := ⟨_, rfl⟩
      obtain ⟨f2, hf2⟩ : ∃ f, f = pairsF ps := ⟨_, rfl⟩
      obtain ⟨er, her⟩ : ∃ f, f = orderE os ps := ⟨_, rfl⟩
      have HF1 := Lib.hid hf1
      have HF2 := Lib.hid hf2
      have HER := Lib.hid her
      have HV := Lib.hid (show firstV [f1, f2] = er by rw [hf1, hf2, her]; exact HE.out)
      clear hf1 hf2 her HE
      have HM := Lib.hid (movesT_any av k cv os ap lp cp ps wo (HOS.out _ (Kept.refl _ _)) (by omega) (HPS.out _ hwr) (by omega))
      have HS := Lib.hid (fun (wx : World) (h : All wo wx) => stepsT_any av k cv os ap lp cp ps wx (HOS.out _ h) (by omega) (HPS.out _ (hwr.trans h)) (by omega))
      have HO := Lib.hid (fun (wx : World) (h : All wo wx) => orderFaultR_any av k cv os wx (HOS.out _ h) (by omega) (by omega))
      have HP := Lib.hid (fun (wx : World) (h : All wo wx) => pairsFault_any ap lp cp ps wx (HPS.out _ (hwr.trans h)) (by omega))
      by_cases h0 : er = 0
      · subst h0
        have hz := HEZ.out HER.out.symm
        have HMO := Lib.hid (fun (wx : World) (h : All wo wx) => movesOf_any av k cv os ap lp cp ps wx (HOS.out _ h) (by omega) (HPS.out _ (hwr.trans h)) (by omega))
        have HSO := Lib.hid (fun (wx : World) (h : All wo wx) => stepsOf_any av k cv os ap lp cp ps wx (HOS.out _ h) (by omega) (HPS.out _ (hwr.trans h)) (by omega))
        obtain ⟨mv, hmv⟩ : ∃ m, m = movesN ps os := ⟨_, rfl⟩
        have HMV := Lib.hid hmv
        rw [← hmv] at HMO
        clear hz hmv
        go_wp2_with fail
        refine HM.out.mono ?_
        rintro e w4 ⟨-, hok, hw4⟩
        have he := hok HER.out.symm
        rw [← HMV.out] at he
        subst he
        clear hok
        go_wp2_with fail
        refine (HS.out _ hw4).mono ?_
        rintro e w5 ⟨-, hok, hw5⟩
        obtain ⟨v5, rfl, hac5⟩ := hok HER.out.symm
        obtain ⟨p5, c5, rfl, hs5⟩ := hac5.sl RStep.ok (by decide) (G := fun _ => True) (fun _ _ => trivial) (fun _ _ => trivial)
        rw [HL5.out] at hs5 ⊢
        have HS5 := Lib.hid (fun (wx : World) (h : All w5 wx) => hs5.keep RStep.ok h)
        have hw45 := hw4.trans hw5
        clear hok hac5 hs5 hw4 hw5
        go_wp2_with fail
        refine (HO.out _ hw45).mono ?_
        rintro e w6 ⟨rfl, hw6⟩
        rw [← HF1.out]
        have hw46 := hw45.trans hw6
        go_wp2_with fail
        refine (HP.out _ hw46).mono ?_
        rintro e w7 ⟨rfl, hw7⟩
        rw [← HF2.out]
        have hw47 := hw46.trans hw7
        have hw57 := hw6.trans hw7
        clear hw45 hw46 hw6 hw7
        go_wp2_with fail
        refine (errsV_any (some ⟨w7.heap.size, 0, none⟩) 2 2 [f1, f2] _ (Sl.lit_ints _ (heap_at _ _ _ rfl) rfl trivial) (by omega)).mono ?_
        rintro e w' ⟨rfl, rfl⟩
        rw [HV.out]
        go_wp2_with fail
        refine (HMO.out _ (hw47.then_alloc _)).mono ?_
        rintro e w8 ⟨rfl, hw8⟩
        go_wp2_with fail
        refine (HSO.out _ ((hw47.then_alloc _).trans hw8)).mono ?_
        rintro e w9 ⟨v9, rfl, hac9, hw9⟩
        obtain ⟨p9, c9, rfl, hs9⟩ := hac9.sl RStep.ok (by decide) (G := fun _ => True) (fun _ _ => trivial) (fun _ _ => trivial)
        rw [HL5.out] at hs9 ⊢
        have hw89 := hw8.trans hw9
        clear hac9 hw8 hw9
        go_wp2_with fail
        refine (equalSteps_same p5 k c5 p9 k c9 _ _ (HS5.out _ ((hw57.then_alloc _).trans hw89)) hs9 (by omega)).mono ?_
        rintro e w10 ⟨rfl, hw10⟩
        go_wp2_with fail
        refine (talked_any _).mono ?_
        rintro e w11 ⟨rfl, hw11⟩
        go_wp2_with fail
        go_ret
        exact ⟨rfl, Hend.out _ ((((hwr.trans (hw47.then_alloc _)).trans hw89).trans hw10).trans hw11)⟩
      · have hne : (er != 0) = true := by simpa using h0
        have H0 := Lib.hid h0
        clear h0
        go_wp2_with fail
        refine HM.out.mono ?_
        rintro e w4 ⟨hbad, -, hw4⟩
        have he := hbad (fun h => H0.out (HER.out.trans h))
        rw [← HER.out] at he
        subst he
        clear hbad
        go_wp2_with fail
        refine (HS.out _ hw4).mono ?_
        rintro e w5 ⟨hbad, -, hw5⟩
        have he := hbad (fun h => H0.out (HER.out.trans h))
        rw [← HER.out] at he
        subst he
        have hw45 := hw4.trans hw5
        clear hbad hw4 hw5
        go_wp2_with fail
        refine (HO.out _ hw45).mono ?_
        rintro e w6 ⟨rfl, hw6⟩
        rw [← HF1.out]
        have hw46 := hw45.trans hw6
        go_wp2_with fail
        refine (HP.out _ hw46).mono ?_
        rintro e w7 ⟨rfl, hw7⟩
        rw [← HF2.out]
        have hw47 := hw46.trans hw7
        clear hw45 hw46 hw6 hw7
        go_wp2_with fail
        refine (errsV_any (some ⟨w7.heap.size, 0, none⟩) 2 2 [f1, f2] _ (Sl.lit_ints _ (heap_at _ _ _ rfl) rfl trivial) (by omega)).mono ?_
        rintro e w' ⟨rfl, rfl⟩
        rw [HV.out]
        go_wp2_with fail
        refine (talked_any _).mono ?_
        rintro e w11 ⟨rfl, hw11⟩
        go_wp2_with fail
        go_ret
        exact ⟨rfl, Hend.out _ ((hwr.trans (hw47.then_alloc _)).trans hw11)⟩
end Go.Proofs.YtllkemadaemjeaaGreatDoor
