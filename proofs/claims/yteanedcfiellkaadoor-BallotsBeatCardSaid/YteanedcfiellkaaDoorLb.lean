/- The law BallotsBeat, walked. -/
import Derived.Test.YteanedcfiellkaaDoorPi
import Derived.Test.YteanedcfiellkaaDoorWb
namespace Go.Proofs.YteanedcfiellkaaDoor
open Go.RowKit

theorem beatKey_any (σ : St) (n sp : Nat) (w : World) (hs : Str σ w n) (hn : n ≤ 4611686018427380000) (cp : w.cell? ⟨sp, 0, none⟩ = some (.pointer (some ⟨σ.b, 0, none⟩))) :
    Calls Tryd.prog 19 #[.pointer (some ⟨sp, 0, none⟩)] w (StPost σ n 1 w (IsStr fun r => r.size ≤ 1000000)) := by
  have hlt := hs.lt
  have hsp := lt_of_cell cp
  dsimp only at hsp
  go_enter Tryd.func19, Tryd.ntmps19
  go_wp2_with fail
  refine (pick_any σ n _ _ _ [0, 0, 1, 1, 2, 3] _ ((hs.keep (Kept.alloc _ _ _)).keep (Kept.alloc _ _ _)) (by omega) (Sl.lit_ints _ (heap_at _ _ _ (by simp)) rfl (by simp; omega)) (by simp) (by simp)).mono ?_
  rintro e w2 ⟨v, m2, rfl, ⟨r, rfl, hr⟩, hm3, hm4, hs2, hb2⟩
  have hr0 : r = 0 ∨ r = 1 ∨ r = 2 ∨ r = 3 := by simp at hr; omega
  clear hr
  have g0 : w2.heap[w.heap.size]? = some _ := hb2.heap (heap_old _ (heap_at w _ _ rfl)) (by omega)
  have c0 := cell_at (i := 0) g0 rfl
  have c1 := cell_at (i := 1) g0 rfl
  have c2 := cell_at (i := 2) g0 rfl
  have c3 := cell_at (i := 3) g0 rfl
  have hbut : But σ.b w w2 := ((Kept.alloc _ _ _).then_alloc _).trans hb2
  clear g0 hb2 hs
  rcases hr0 with rfl | rfl | rfl | rfl
  · go_wp2_with fail
    go_ret
    exact ⟨_, m2, rfl, ⟨_, rfl, by decide⟩, by omega, by omega, hs2, hbut⟩
  · go_wp2_with fail
    go_ret
    exact ⟨_, m2, rfl, ⟨_, rfl, by decide⟩, by omega, by omega, hs2, hbut⟩
  · go_wp2_with fail
    go_ret
    exact ⟨_, m2, rfl, ⟨_, rfl, by decide⟩, by omega, by omega, hs2, hbut⟩
  · go_wp2_with fail
    go_ret
    exact ⟨_, m2, rfl, ⟨_, rfl, by decide⟩, by omega, by omega, hs2, hbut⟩

theorem firstE_two (a b : Int) : firstE [a, b] = if a ≠ 0 then a else b := by
  unfold firstE
  by_cases h : a ≠ 0
  · rw [if_pos h, if_pos h]
  · rw [if_neg h, if_neg h]
    unfold firstE
    by_cases hb : b ≠ 0
    · rw [if_pos hb]
    · rw [if_neg hb]; unfold firstE; omega

set_option maxRecDepth 100000 in
set_option maxHeartbeats 6400000 in
theorem ballotsBeat_walk (a : Option Addr) (len cap : Nat) (w : World) (h : IsRow w a len cap) :
    Calls Tryd.prog 4 #[.slice a len cap] w fun e w' => e = .returned (.bool true) ∧ Below w.heap.size w w' := by
  have hst := h.start.keep (Kept.alloc (fun _ => True) _ (.cells #[.pointer (some ⟨w.heap.size, 0, none⟩)] 23))
  obtain ⟨σ, hσ⟩ : ∃ σ : St, σ = ⟨w.heap.size, a, len, cap⟩ := ⟨_, rfl⟩
  have hσb : σ.b = w.heap.size := by rw [hσ]
  rw [← hσ] at hst
  have Hσ := Lib.hid hσb
  have hptr : (Value.pointer (some ⟨w.heap.size, 0, none⟩)) = Value.pointer (some ⟨σ.b, 0, none⟩) := by rw [hσb]
  have Hptr := Lib.hid hptr
  have hk0 : Kept (fun k => k ≠ σ.b) w ((w.alloc (.cells #[.slice a len cap, .int .i64 0] 25)).alloc (.cells #[.pointer (some ⟨w.heap.size, 0, none⟩)] 23)) := (Kept.alloc _ _ _).then_alloc _
  have hvar := heap_at (w.alloc (.cells #[.slice a len cap, .int .i64 0] 25)) (.cells #[.pointer (some ⟨w.heap.size, 0, none⟩)] 23) (w.heap.size + 1) (by simp)
  have cp := cell_at (i := 0) hvar rfl
  rw [Hptr.out] at cp
  have hmf' := hmf
  clear hσ hσb hptr h hvar
  go_enter Tryd.func4, Tryd.ntmps4
  go_wp2_with fail
  simp only [Hptr.out] at *
  generalize ((w.alloc (.cells #[.slice a len cap, .int .i64 0] 25)).alloc (.cells #[.pointer (some ⟨σ.b, 0, none⟩)] 23)) = w0 at *
  have hspne : w.heap.size + 1 ≠ σ.b := by have := Hσ.out; omega
  refine (nominees_any σ 0 _ hst (by omega)).mono ?_
  rintro e w1 ⟨v, n1, rfl, ⟨an, ln, cn, noms, rfl, hln, hcn, hnoms⟩, hn1, hn2, hs1, hb1⟩
  have hk1 := hk0.trans hb1
  have cp1 := hb1.cell cp hspne
  clear hst hk0 cp hb1
  go_wp2_with fail
  refine (ballots_any σ n1 an ln cn noms _ hs1 (by omega) hln hnoms).mono ?_
  rintro e w2 ⟨v, n2, rfl, ⟨bs, hbs, hsm1, hsm2⟩, hn3, hn4, hs2, hb2⟩
  obtain ⟨ab, cb, hv, hbsl⟩ := hbs.sl RBal.ok (by decide) (G := fun k => k ≠ σ.b) (fun k h => h) (fun k hk => by have := (hbs.lt k hk).1; have := hs1.lt; omega)
  subst hv
  have hnoms2 := hnoms.keep RStr.ok hb2
  have hk2 := hk1.trans hb2
  have cp2 := hb2.cell cp1 hspne
  clear hs1 hk1 hnoms hbs hb2 cp1
  go_wp2_with fail
  refine (beatKey_any σ n2 _ _ hs2 (by omega) cp2).mono ?_
  rintro e w3 ⟨v, n3, rfl, ⟨x, rfl, hxz⟩, hn5, hn6, hs3, hb3⟩
  have hnoms3 := hnoms2.keep RStr.ok hb3
  have hbsl3 := hbsl.keep RBal.ok hb3
  have hk3 := hk2.trans hb3
  have cp3 := hb3.cell cp2 hspne
  clear hs2 hnoms2 hbsl hk2 hb3 cp2
  go_wp2_with fail
  refine (beatKey_any σ n3 _ _ hs3 (by omega) cp3).mono ?_
  rintro e w4 ⟨v, n4, rfl, ⟨y, rfl, hyz⟩, hn7, hn8, hs4, hb4⟩
  have hnoms4 := (hnoms3.keep RStr.ok hb4).mono RStr.ok (G := fun _ => True) (fun _ _ => trivial)
  have hbsl4 := (hbsl3.keep RBal.ok hb4).mono RBal.ok (G := fun _ => True) (fun _ _ => trivial)
  have hk4 := hk3.trans hb4
  clear hs3 hs4 hnoms3 hbsl3 hk3 hb4 cp3
  have hbr : ∀ x ∈ bs, x.ranks.length ≤ 1000000 := fun x hx => by have := (hsm2 x hx).2.2; omega
  have hsm : ∀ x ∈ bs, -2000000000000 ≤ x.many ∧ x.many ≤ 2000000000000 := fun x hx => ⟨(hsm2 x hx).1, (hsm2 x hx).2.1⟩
  have hV : Votes w4 an ln noms ab bs.length bs := ⟨hnoms4, hbsl4, by omega, by omega, ⟨by omega, hsm⟩, hbr⟩
  have HB := Lib.hid (Beats_any an ln cn noms ab bs.length cb bs x y w4 hV)
  have HV := Lib.hid hV
  have HR := Lib.hid (fun (wx : World) (hw : All w4 wx) => ballotsFault_any an ln cn noms ab bs.length cb bs wx (hV.keep hw).hn (hV.keep hw).hb hV.hln hV.hlb hbr hsm)
  have HX := Lib.hid (fun (v : ByteArray) (wx : World) (hw : All w4 wx) => contains_any (F := fun _ => True) an ln cn noms v wx ((hV.keep hw).hn) hV.hln)
  have HBo := Lib.hid (fun (wx : World) (hw : All w4 wx) => beatsOf_any ab bs.length cb bs x y wx ((hV.keep hw).hb) hV.sum hbr)
  have hend : ∀ wx, All w4 wx → Below w.heap.size w wx := fun wx hw => (hk4.trans (Kept.all hw)).below (Nat.le_refl _) (fun k hk => by have := Hσ.out; omega)
  have Hend := Lib.hid hend
  clear hsm1 hsm2 hnoms4 hbsl4 hbr hsm hV hend hk4
  go_wp2_with fail
  refine HB.out.mono ?_
  rintro e w5 ⟨rfl, hw5⟩
  have hFE : beatsE noms bs x y = firstE [ballotsF noms bs, if (!memB x noms || !memB y noms) = true then 8 else 0] := by
    rw [firstE_two]
    unfold beatsE
    by_cases h0 : ballotsF noms bs ≠ 0
    · rw [if_pos h0, if_pos h0]
    · rw [if_neg h0, if_neg h0]
      cases memB x noms <;> cases memB y noms <;> simp
  have HFE := Lib.hid hFE
  clear hFE HB
  -- CASES
  by_cases h0 : ballotsF noms bs = 0
  · cases hx : memB x noms with
    | false =>
      have hE : beatsE noms bs x y = 8 := by unfold beatsE; rw [if_neg (by simp [h0]), if_pos (Or.inl hx)]
      have hM : beatsM noms bs x y = 0 := by unfold beatsM; rw [if_neg (by rw [hE]; decide)]
      have hFE2 := HFE.out
      rw [hE, hx] at hFE2
      rw [h0] at hFE2
      simp at hFE2
      have HFE2 := Lib.hid hFE2
      rw [hE, hM]
      have H0 := Lib.hid h0
      have Hx := Lib.hid hx
      clear hE hM hFE2 HFE h0 hx
      go_wp2_with fail
      refine (winner_any an ln cn noms ab bs.length cb bs _ (HV.out.keep hw5) H0.out).mono ?_
      rintro e w6 ⟨rfl, hw6⟩
      have hw46 := hw5.trans hw6
      go_wp2_with fail
      refine (HR.out _ hw46).mono ?_
      rintro e w7 ⟨rfl, hw7⟩
      rw [H0.out]
      have hw47 := hw46.trans hw7
      go_wp2_with fail
      refine (HX.out x _ hw47).mono ?_
      rintro e w' ⟨rfl, rfl⟩
      rw [Hx.out]
      go_wp2_with fail
      refine (when_any _ 8 _).mono ?_
      rintro e w' ⟨rfl, rfl⟩
      rw [if_pos rfl]
      go_wp2_with fail
      refine (errs_any _ _ _ [0, 8] _ (Sl.lit_ints _ (heap_at _ _ _ rfl) rfl trivial) (by simp)).mono ?_
      rintro e w' ⟨rfl, rfl⟩
      rw [← HFE2.out]
      have hw48 := hw47.then_alloc (.cells #[.int .i64 (0), .int .i64 8] 32)
      have hw49 := hw48
      go_wp2_with fail
      refine (winnerOf_any an ln cn noms ab bs.length cb bs _ (HV.out.keep hw49)).mono ?_
      rintro e wA ⟨rfl, hwA⟩
      have hw4A := hw49.trans hwA
      have g2 : ((winF noms bs noms).getD ByteArray.empty).toList == ((winF noms bs noms).getD ByteArray.empty).toList := by simp
      have g3 : ((winF noms bs noms).isSome == (winF noms bs noms).isSome) = true := by simp
      generalize (winF noms bs noms).getD ByteArray.empty = wn at *
      generalize (winF noms bs noms).isSome = wb at *
      cases wb
      · go_wp2_with fail
        refine (printed_any _).mono ?_
        rintro e w' ⟨rfl, rfl⟩
        go_wp2_with fail
        go_ret
        exact ⟨rfl, Hend.out _ hw4A⟩
      · go_wp2_with fail
        refine (printed_any _).mono ?_
        rintro e w' ⟨rfl, rfl⟩
        go_wp2_with fail
        go_ret
        exact ⟨rfl, Hend.out _ hw4A⟩
    | true =>
      cases hy : memB y noms with
      | false =>
        have hE : beatsE noms bs x y = 8 := by unfold beatsE; rw [if_neg (by simp [h0]), if_pos (Or.inr hy)]
        have hM : beatsM noms bs x y = 0 := by unfold beatsM; rw [if_neg (by rw [hE]; decide)]
        have hFE2 := HFE.out
        rw [hE, hx, hy] at hFE2
        rw [h0] at hFE2
        simp at hFE2
        have HFE2 := Lib.hid hFE2
        rw [hE, hM]
        have H0 := Lib.hid h0
        have Hx := Lib.hid hx
        have Hy := Lib.hid hy
        clear hE hM hFE2 HFE h0 hx hy
        go_wp2_with fail
        refine (winner_any an ln cn noms ab bs.length cb bs _ (HV.out.keep hw5) H0.out).mono ?_
        rintro e w6 ⟨rfl, hw6⟩
        have hw46 := hw5.trans hw6
        go_wp2_with fail
        refine (HR.out _ hw46).mono ?_
        rintro e w7 ⟨rfl, hw7⟩
        rw [H0.out]
        have hw47 := hw46.trans hw7
        go_wp2_with fail
        refine (HX.out x _ hw47).mono ?_
        rintro e w' ⟨rfl, rfl⟩
        rw [Hx.out]
        go_wp2_with fail
        refine (HX.out y _ hw47).mono ?_
        rintro e w' ⟨rfl, rfl⟩
        rw [Hy.out]
        go_wp2_with fail
        refine (when_any _ 8 _).mono ?_
        rintro e w' ⟨rfl, rfl⟩
        rw [if_pos rfl]
        go_wp2_with fail
        refine (errs_any _ _ _ [0, 8] _ (Sl.lit_ints _ (heap_at _ _ _ rfl) rfl trivial) (by simp)).mono ?_
        rintro e w' ⟨rfl, rfl⟩
        rw [← HFE2.out]
        have hw48 := hw47.then_alloc (.cells #[.int .i64 (0), .int .i64 8] 32)
        have hw49 := hw48
        go_wp2_with fail
        refine (winnerOf_any an ln cn noms ab bs.length cb bs _ (HV.out.keep hw49)).mono ?_
        rintro e wA ⟨rfl, hwA⟩
        have hw4A := hw49.trans hwA
        have g2 : ((winF noms bs noms).getD ByteArray.empty).toList == ((winF noms bs noms).getD ByteArray.empty).toList := by simp
        have g3 : ((winF noms bs noms).isSome == (winF noms bs noms).isSome) = true := by simp
        generalize (winF noms bs noms).getD ByteArray.empty = wn at *
        generalize (winF noms bs noms).isSome = wb at *
        cases wb
        · go_wp2_with fail
          refine (printed_any _).mono ?_
          rintro e w' ⟨rfl, rfl⟩
          go_wp2_with fail
          go_ret
          exact ⟨rfl, Hend.out _ hw4A⟩
        · go_wp2_with fail
          refine (printed_any _).mono ?_
          rintro e w' ⟨rfl, rfl⟩
          go_wp2_with fail
          go_ret
          exact ⟨rfl, Hend.out _ hw4A⟩
      | true =>
        have hE : beatsE noms bs x y = 0 := by unfold beatsE; rw [if_neg (by simp [h0]), if_neg (by simp [hx, hy])]
        have hM : beatsM noms bs x y = beatsF x y bs := by unfold beatsM; rw [if_pos hE]
        have hFE2 := HFE.out
        rw [hE, hx, hy] at hFE2
        rw [h0] at hFE2
        simp at hFE2
        have HFE2 := Lib.hid hFE2
        rw [hE, hM]
        have H0 := Lib.hid h0
        have Hx := Lib.hid hx
        have Hy := Lib.hid hy
        clear hE hM hFE2 HFE h0 hx hy
        go_wp2_with fail
        refine (winner_any an ln cn noms ab bs.length cb bs _ (HV.out.keep hw5) H0.out).mono ?_
        rintro e w6 ⟨rfl, hw6⟩
        have hw46 := hw5.trans hw6
        go_wp2_with fail
        refine (HR.out _ hw46).mono ?_
        rintro e w7 ⟨rfl, hw7⟩
        rw [H0.out]
        have hw47 := hw46.trans hw7
        go_wp2_with fail
        refine (HX.out x _ hw47).mono ?_
        rintro e w' ⟨rfl, rfl⟩
        rw [Hx.out]
        go_wp2_with fail
        refine (HX.out y _ hw47).mono ?_
        rintro e w' ⟨rfl, rfl⟩
        rw [Hy.out]
        go_wp2_with fail
        refine (when_any _ 8 _).mono ?_
        rintro e w' ⟨rfl, rfl⟩
        rw [if_neg (by decide)]
        go_wp2_with fail
        refine (errs_any _ _ _ [0, 0] _ (Sl.lit_ints _ (heap_at _ _ _ rfl) rfl trivial) (by simp)).mono ?_
        rintro e w' ⟨rfl, rfl⟩
        rw [← HFE2.out]
        have hw48 := hw47.then_alloc (.cells #[.int .i64 (0), .int .i64 0] 32)
        go_wp2_with fail
        refine (HBo.out _ hw48).mono ?_
        rintro e w9 ⟨rfl, hw9⟩
        have hw49 := hw48.trans hw9
        have g1 : (beatsF x y bs != beatsF x y bs) = false := by simp
        go_wp2_with fail
        refine (winnerOf_any an ln cn noms ab bs.length cb bs _ (HV.out.keep hw49)).mono ?_
        rintro e wA ⟨rfl, hwA⟩
        have hw4A := hw49.trans hwA
        have g2 : ((winF noms bs noms).getD ByteArray.empty).toList == ((winF noms bs noms).getD ByteArray.empty).toList := by simp
        have g3 : ((winF noms bs noms).isSome == (winF noms bs noms).isSome) = true := by simp
        generalize (winF noms bs noms).getD ByteArray.empty = wn at *
        generalize (winF noms bs noms).isSome = wb at *
        cases wb
        · go_wp2_with fail
          refine (printed_any _).mono ?_
          rintro e w' ⟨rfl, rfl⟩
          go_wp2_with fail
          go_ret
          exact ⟨rfl, Hend.out _ hw4A⟩
        · go_wp2_with fail
          refine (printed_any _).mono ?_
          rintro e w' ⟨rfl, rfl⟩
          go_wp2_with fail
          go_ret
          exact ⟨rfl, Hend.out _ hw4A⟩
  · cases hx : memB x noms with
    | false =>
      have hE : beatsE noms bs x y = ballotsF noms bs := by unfold beatsE; rw [if_pos h0]
      have hM : beatsM noms bs x y = 0 := by unfold beatsM; rw [if_neg (by rw [hE]; exact h0)]
      have hFE2 := HFE.out
      rw [hE, hx] at hFE2
      simp at hFE2
      have HFE2 := Lib.hid hFE2
      rw [hE, hM]
      have H0 := Lib.hid h0
      have Hx := Lib.hid hx
      have f1 : (ballotsF noms bs != ballotsF noms bs) = false := by simp
      have f2 : (ballotsF noms bs == 0) = false := by simpa using h0
      have f3 : (ballotsF noms bs != 0) = true := by simpa using h0
      have f4 : (ByteArray.empty).toList = [] := toList_nil rfl
      clear hE hM hFE2 HFE h0 hx
      go_wp2_with fail
      refine (winner_bad an ln cn noms ab bs.length cb bs _ (HV.out.keep hw5) H0.out).mono ?_
      rintro e w6 ⟨rfl, hw6⟩
      have hw46 := hw5.trans hw6
      go_wp2_with fail
      refine (HR.out _ hw46).mono ?_
      rintro e w7 ⟨rfl, hw7⟩
      have hw47 := hw46.trans hw7
      go_wp2_with fail
      refine (HX.out x _ hw47).mono ?_
      rintro e w' ⟨rfl, rfl⟩
      rw [Hx.out]
      go_wp2_with fail
      refine (when_any _ 8 _).mono ?_
      rintro e w' ⟨rfl, rfl⟩
      rw [if_pos rfl]
      go_wp2_with fail
      refine (errs_any _ _ _ [ballotsF noms bs, 8] _ (Sl.lit_ints _ (heap_at _ _ _ rfl) rfl trivial) (by simp)).mono ?_
      rintro e w' ⟨rfl, rfl⟩
      rw [← HFE2.out]
      have hw48 := hw47.then_alloc (.cells #[.int .i64 (ballotsF noms bs), .int .i64 8] 32)
      have hw49 := hw48
      go_wp2_with fail
      refine (printed_any _).mono ?_
      rintro e w' ⟨rfl, rfl⟩
      go_wp2_with fail
      go_ret
      exact ⟨rfl, Hend.out _ hw49⟩
    | true =>
      cases hy : memB y noms with
      | false =>
        have hE : beatsE noms bs x y = ballotsF noms bs := by unfold beatsE; rw [if_pos h0]
        have hM : beatsM noms bs x y = 0 := by unfold beatsM; rw [if_neg (by rw [hE]; exact h0)]
        have hFE2 := HFE.out
        rw [hE, hx, hy] at hFE2
        simp at hFE2
        have HFE2 := Lib.hid hFE2
        rw [hE, hM]
        have H0 := Lib.hid h0
        have Hx := Lib.hid hx
        have Hy := Lib.hid hy
        have f1 : (ballotsF noms bs != ballotsF noms bs) = false := by simp
        have f2 : (ballotsF noms bs == 0) = false := by simpa using h0
        have f3 : (ballotsF noms bs != 0) = true := by simpa using h0
        have f4 : (ByteArray.empty).toList = [] := toList_nil rfl
        clear hE hM hFE2 HFE h0 hx hy
        go_wp2_with fail
        refine (winner_bad an ln cn noms ab bs.length cb bs _ (HV.out.keep hw5) H0.out).mono ?_
        rintro e w6 ⟨rfl, hw6⟩
        have hw46 := hw5.trans hw6
        go_wp2_with fail
        refine (HR.out _ hw46).mono ?_
        rintro e w7 ⟨rfl, hw7⟩
        have hw47 := hw46.trans hw7
        go_wp2_with fail
        refine (HX.out x _ hw47).mono ?_
        rintro e w' ⟨rfl, rfl⟩
        rw [Hx.out]
        go_wp2_with fail
        refine (HX.out y _ hw47).mono ?_
        rintro e w' ⟨rfl, rfl⟩
        rw [Hy.out]
        go_wp2_with fail
        refine (when_any _ 8 _).mono ?_
        rintro e w' ⟨rfl, rfl⟩
        rw [if_pos rfl]
        go_wp2_with fail
        refine (errs_any _ _ _ [ballotsF noms bs, 8] _ (Sl.lit_ints _ (heap_at _ _ _ rfl) rfl trivial) (by simp)).mono ?_
        rintro e w' ⟨rfl, rfl⟩
        rw [← HFE2.out]
        have hw48 := hw47.then_alloc (.cells #[.int .i64 (ballotsF noms bs), .int .i64 8] 32)
        have hw49 := hw48
        go_wp2_with fail
        refine (printed_any _).mono ?_
        rintro e w' ⟨rfl, rfl⟩
        go_wp2_with fail
        go_ret
        exact ⟨rfl, Hend.out _ hw49⟩
      | true =>
        have hE : beatsE noms bs x y = ballotsF noms bs := by unfold beatsE; rw [if_pos h0]
        have hM : beatsM noms bs x y = 0 := by unfold beatsM; rw [if_neg (by rw [hE]; exact h0)]
        have hFE2 := HFE.out
        rw [hE, hx, hy] at hFE2
        simp at hFE2
        have HFE2 := Lib.hid hFE2
        rw [hE, hM]
        have H0 := Lib.hid h0
        have Hx := Lib.hid hx
        have Hy := Lib.hid hy
        have f1 : (ballotsF noms bs != ballotsF noms bs) = false := by simp
        have f2 : (ballotsF noms bs == 0) = false := by simpa using h0
        have f3 : (ballotsF noms bs != 0) = true := by simpa using h0
        have f4 : (ByteArray.empty).toList = [] := toList_nil rfl
        clear hE hM hFE2 HFE h0 hx hy
        go_wp2_with fail
        refine (winner_bad an ln cn noms ab bs.length cb bs _ (HV.out.keep hw5) H0.out).mono ?_
        rintro e w6 ⟨rfl, hw6⟩
        have hw46 := hw5.trans hw6
        go_wp2_with fail
        refine (HR.out _ hw46).mono ?_
        rintro e w7 ⟨rfl, hw7⟩
        have hw47 := hw46.trans hw7
        go_wp2_with fail
        refine (HX.out x _ hw47).mono ?_
        rintro e w' ⟨rfl, rfl⟩
        rw [Hx.out]
        go_wp2_with fail
        refine (HX.out y _ hw47).mono ?_
        rintro e w' ⟨rfl, rfl⟩
        rw [Hy.out]
        go_wp2_with fail
        refine (when_any _ 8 _).mono ?_
        rintro e w' ⟨rfl, rfl⟩
        rw [if_neg (by decide)]
        go_wp2_with fail
        refine (errs_any _ _ _ [ballotsF noms bs, 0] _ (Sl.lit_ints _ (heap_at _ _ _ rfl) rfl trivial) (by simp)).mono ?_
        rintro e w' ⟨rfl, rfl⟩
        rw [← HFE2.out]
        have hw48 := hw47.then_alloc (.cells #[.int .i64 (ballotsF noms bs), .int .i64 0] 32)
        have hw49 := hw48
        go_wp2_with fail
        refine (printed_any _).mono ?_
        rintro e w' ⟨rfl, rfl⟩
        go_wp2_with fail
        go_ret
        exact ⟨rfl, Hend.out _ hw49⟩
end Go.Proofs.YteanedcfiellkaaDoor
