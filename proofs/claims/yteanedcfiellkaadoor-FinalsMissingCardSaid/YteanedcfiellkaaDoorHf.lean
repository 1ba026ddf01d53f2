/- Missing answers the error, or lackF, sorted. -/
import Derived.Test.YteanedcfiellkaaDoorHe
import Derived.Test.YteanedcfiellkaaDoorGg
import Derived.Test.YteanedcfiellkaaDoorMa
namespace Go.Proofs.YteanedcfiellkaaDoor
open Go.RowKit

theorem zeroBm (w : World) : (zeroValue 4).run Tryd.prog w = .ok (.bool false) w := by kernel_rfl
/-- What Missing returns: the error, the papers. -/
noncomputable def missF (xs : List Fin4) (ds : List Dec3) : Int × List ByteArray :=
  if finalsF xs ≠ 0 then (finalsF xs, []) else if verdF [] ds ≠ 0 then (verdF [] ds, []) else (0, sortB (lackF xs ds))
theorem missF_fin {xs : List Fin4} {ds : List Dec3} (h : finalsF xs ≠ 0) : missF xs ds = (finalsF xs, []) := by rw [missF, if_pos h]
theorem missF_verd {xs : List Fin4} {ds : List Dec3} {e : Int} (h : finalsF xs = 0) (h2 : verdF [] ds = e) (he : e ≠ 0) : missF xs ds = (e, []) := by rw [missF, if_neg (by simp [h]), if_pos (by rw [h2]; exact he), h2]
theorem missF_ok {xs : List Fin4} {ds : List Dec3} (h : finalsF xs = 0) (h2 : verdF [] ds = 0) : missF xs ds = (0, sortB (lackF xs ds)) := by rw [missF, if_neg (by simp [h]), if_neg (by simp [h2])]
def MissPost (r : Int × List ByteArray) (w : World) (e : Ending) (w' : World) : Prop :=
  ∃ a cap ss er, r = (er, ss) ∧ e = .returned (.tuple #[.slice a ss.length cap, .int .i64 er]) ∧ Sl RStr 1 (fun _ => True) w' a ss.length ss ∧ All w w'
theorem MissPost.fail {r : Int × List ByteArray} {w w' : World} {er : Int} (h : r = (er, [])) (hw : All w w') : MissPost r w (.returned (.tuple #[.slice none 0 0, .int .i64 er])) w' :=
  ⟨none, 0, [], er, h, rfl, Sl.nil _ _ _ _ _, hw⟩

set_option maxRecDepth 100000 in
set_option maxHeartbeats 6400000 in
theorem missing_any (af : Option Addr) (lf cf : Nat) (xs : List Fin4) (a : Option Addr) (len cap : Nat) (ds : List Dec3) (w : World) (hf : Sl RFin 4 (fun _ => True) w af lf xs) (hlf : lf ≤ 1000) (hs : Sl RDec 3 (fun _ => True) w a len ds) (hl : len ≤ 1000) (hg : Glob w) :
    Calls Tryd.prog 55 #[.slice af lf cf, .slice a len cap] w (MissPost (missF xs ds) w) := by
  have Hlen := Lib.hid hs.len
  by_cases hfz : finalsF xs = 0
  · have HF := Lib.hid hfz
    have HRs := Lib.hid (finalsF_rises hfz)
    have hmm := @run_makeMap Tryd.prog
    go_enter Tryd.func55, Tryd.ntmps55
    go_wp2_with fail
    refine (checkFinals_any af lf cf xs _ hf hlf hg).mono ?_
    rintro e w2 ⟨rfl, hk2⟩
    rw [hfz]
    clear hfz hg
    go_wp2_with fail
    have hset0 := SetM.made Tryd.prog 9 4 w2
    have hk3 : All w (w2.alloc (.map #[] 0)) := hk2.then_alloc _
    have hz3 : w2.heap.size < (w2.alloc (.map #[] 0)).heap.size := by simp
    have hws := hk2.size
    generalize hmb : w2.heap.size = mb at *
    generalize w2.alloc (.map #[] 0) = w3 at *
    clear hmb hk2
    obtain ⟨B0, hB1, hB2⟩ : ∃ B0, B0 ≤ w3.heap.size ∧ w3.heap.size ≤ B0 := ⟨_, Nat.le_refl _, Nat.le_refl _⟩
    have hs3 : Sl RDec 3 (fun k => k ≠ mb) w3 a len ds := ((hs.live RDec.ok (by decide)).keep RDec.ok (Kept.all hk3)).mono RDec.ok (fun k hk => by have := hk.2; omega)
    have hf3 : Sl RFin 4 (fun k => k ≠ mb) w3 af lf xs := ((hf.live RFin.ok (by decide)).keep RFin.ok (Kept.all hk3)).mono RFin.ok (fun k hk => by have := hk.2; omega)
    clear hs hf
    go_loopw [8, 21] (fun v i wr => ∃ (j : Nat) (ss : List ByteArray), j ≤ len ∧ i = .int .i64 j ∧ VerdAt ds j ∧ ss = lackF xs (ds.take j) ∧ Acc RStr 1 9 (fun _ => False) B0 wr v ss ∧ SetM Tryd.prog 9 4 wr mb (papersD (ds.take j)).length (papersD (ds.take j)) ∧ Kept (fun k => k ≠ mb) w3 wr) (fun _ i _ => len - (intOf i).toNat)
    case atStart => exact ⟨0, [], Nat.zero_le _, rfl, VerdAt.zero _, by simp [lackF, papersD], Acc.nil _ _ _ _ _ _, by simpa [papersD] using hset0, Kept.refl _ _⟩
    case round =>
      clear hset0
      obtain ⟨j, ss, hj, rfl, hva, hss, hacc, hset, hwo⟩ := hrel
      obtain ⟨wo, rfl⟩ : ∃ wo : World, wo = wr := ⟨_, rfl⟩
      have hsl : ss.length ≤ 1000 := by
        have h1 := lackF_len xs (ds.take j)
        rw [← hss] at h1
        simp only [List.length_take] at h1
        omega
      obtain ⟨ae, ce, hve, hce⟩ := hacc.form
      obtain ⟨sl, hsle⟩ : ∃ sl, sl = ss.length := ⟨_, rfl⟩
      rw [← hsle] at hve hce hsl
      have Hsl := Lib.hid hsle
      have HSS := Lib.hid hss
      have HA := Lib.hid hva
      clear hsle hss hva
      subst hve
      have hszo := hwo.size
      by_cases hlt : j < len
      · obtain ⟨b, off, y, ha, hFb, c0, c1, c2, hz0, hy, -, hty⟩ := hs3.atDec hlt
        subst ha
        replace c0 := hwo.cell c0 hFb
        replace c1 := hwo.cell c1 hFb
        replace c2 := hwo.cell c2 hFb
        have Hy := Lib.hid hy
        have HT := Lib.hid hty
        have hnn : (papersD (ds.take j)).length ≤ 1000000 := by simp [papersD]; omega
        have HPL := Lib.hid (show (papersD (ds.take j)).length + 1 = (papersD (ds.take (j + 1))).length by rw [papersD_succ hty]; simp)
        have HPS := Lib.hid (papersD_succ hty)
        clear hy hty
        have hwa := hwo.then_alloc (.cells #[.string y.paper, .bool y.yes, .int .i64 y.rank] 150)
        have hblk := heap_at wo (.cells #[.string y.paper, .bool y.yes, .int .i64 y.rank] 150) _ rfl
        have e0 := cell_at (i := 0) hblk rfl
        have e1 := cell_at (i := 1) hblk rfl
        have hacca := hacc.keepAll RStr.ok (Kept.alloc (fun _ => True) wo (.cells #[.string y.paper, .bool y.yes, .int .i64 y.rank] 150))
        have hseta := hset.keep (Kept.alloc (fun _ => True) wo (.cells #[.string y.paper, .bool y.yes, .int .i64 y.rank] 150)) trivial
        clear hset hwo hblk
        cases h1 : isKeyB y.paper with
        | false =>
          have hfin := Lib.hid (missF_verd HF.out (HA.out.name Hy.out h1) (by decide))
          go_wp2_with fail
          refine (isKey_any y.paper _ (by omega)).mono ?_
          rintro e w' ⟨rfl, rfl⟩
          rw [h1]
          go_wp2_with fail
          go_ret2
          exact MissPost.fail hfin.out (hk3.trans2 hwa fun i hi _ => by omega)
        | true =>
          cases h2 : memB y.paper (papersD (ds.take j)) with
          | true =>
            have hfin := Lib.hid (missF_verd HF.out (HA.out.twice Hy.out h1 h2) (by decide))
            go_wp2_with fail
            refine (isKey_any y.paper _ (by omega)).mono ?_
            rintro e w' ⟨rfl, rfl⟩
            rw [h1]
            have hlk := hseta.look Tryd.underlying9 Tryd.underlying4 Tryd.underlying115 (zeroBm _) y.paper hz0
            rw [h2] at hlk
            clear hseta h2
            go_wp2_with fail
            go_ret2
            exact MissPost.fail hfin.out (hk3.trans2 hwa fun i hi _ => by omega)
          | false =>
            have hnx := Lib.hid (HA.out.next Hy.out HT.out h1 h2)
            go_wp2_with fail
            refine (isKey_any y.paper _ (by omega)).mono ?_
            rintro e w' ⟨rfl, rfl⟩
            rw [h1]
            have hlk := hseta.look Tryd.underlying9 Tryd.underlying4 Tryd.underlying115 (zeroBm _) y.paper hz0
            rw [h2] at hlk
            clear h2
            cases h3 : (finOf xs y.paper).isSome with
            | true =>
              have hno : isLack xs y = false := by simp [isLack, h3]
              obtain ⟨w6, hrun6, hset6, hb6⟩ := hseta.put Tryd.underlying9 Tryd.underlying4 Tryd.underlying115 hnn y.paper hz0
              have hw6 := hwa.trans hb6
              have hacc6 := hacca.keep RStr.ok hb6 (fun _ h => h.elim) (fun k hk => by have := (hacc.lt k hk).1; omega)
              rw [HPL.out, ← HPS.out] at hset6
              have q0 := hb6.cell e0 (by dsimp only; omega)
              have q1 := hb6.cell e1 (by dsimp only; omega)
              have hsz6 := hw6.size
              have HFN := Lib.hid (final_any af lf cf xs y.paper w6 ((hf3.keep RFin.ok hw6).mono RFin.ok (fun _ _ => trivial)) hlf HRs.out.1)
              clear hseta hacca hacc hwa hb6 e0 e1
              go_wp2_with fail
              refine HFN.out.mono ?_
              rintro e w7 ⟨rfl, hw7⟩
              rw [h3]
              have hw8 := hw6.trans (Kept.all hw7)
              have hset8 := hset6.keep hw7 trivial
              have hacc8 := hacc6.keepAll RStr.ok hw7
              have r0 := hw7.cell q0 trivial
              have r1 := hw7.cell q1 trivial
              have hsz8 := hw8.size
              clear HFN hset6 hacc6 hw6 hw7 q0 q1 hsz6
              cases h4 : y.yes with
              | true =>
                rw [h4] at r1
                have hnl := Lib.hid (show ss = lackF xs (ds.take (j + 1)) by rw [lackF_no HT.out hno]; exact HSS.out)
                go_wp2_with fail
                go_roundw
                case rel => exact ⟨j + 1, _, by omega, by go_num, hnx.out, hnl.out, hacc8, hset8, hw8⟩
                case measure => simp [intOf]; omega
              | false =>
                rw [h4] at r1
                have hnl := Lib.hid (show ss = lackF xs (ds.take (j + 1)) by rw [lackF_no HT.out hno]; exact HSS.out)
                go_wp2_with fail
                go_roundw
                case rel => exact ⟨j + 1, _, by omega, by go_num, hnx.out, hnl.out, hacc8, hset8, hw8⟩
                case measure => simp [intOf]; omega
            | false =>
              obtain ⟨w6, hrun6, hset6, hb6⟩ := hseta.put Tryd.underlying9 Tryd.underlying4 Tryd.underlying115 hnn y.paper hz0
              have hw6 := hwa.trans hb6
              have hacc6 := hacca.keep RStr.ok hb6 (fun _ h => h.elim) (fun k hk => by have := (hacc.lt k hk).1; omega)
              rw [HPL.out, ← HPS.out] at hset6
              have q0 := hb6.cell e0 (by dsimp only; omega)
              have q1 := hb6.cell e1 (by dsimp only; omega)
              have hsz6 := hw6.size
              have HFN := Lib.hid (final_any af lf cf xs y.paper w6 ((hf3.keep RFin.ok hw6).mono RFin.ok (fun _ _ => trivial)) hlf HRs.out.1)
              clear hseta hacca hacc hwa hb6 e0 e1
              go_wp2_with fail
              refine HFN.out.mono ?_
              rintro e w7 ⟨rfl, hw7⟩
              rw [h3]
              have hw8 := hw6.trans (Kept.all hw7)
              have hset8 := hset6.keep hw7 trivial
              have hacc8 := hacc6.keepAll RStr.ok hw7
              have r0 := hw7.cell q0 trivial
              have r1 := hw7.cell q1 trivial
              have hsz8 := hw8.size
              clear HFN hset6 hacc6 hw6 hw7 q0 q1 hsz6
              cases h4 : y.yes with
              | false =>
                have hno : isLack xs y = false := by simp [isLack, h4]
                rw [h4] at r1
                have hnl := Lib.hid (show ss = lackF xs (ds.take (j + 1)) by rw [lackF_no HT.out hno]; exact HSS.out)
                go_wp2_with fail
                go_roundw
                case rel => exact ⟨j + 1, _, by omega, by go_num, hnx.out, hnl.out, hacc8, hset8, hw8⟩
                case measure => simp [intOf]; omega
              | true =>
                have hyes : isLack xs y = true := by simp [isLack, h4, h3]
                have hnl := Lib.hid (show ss ++ [y.paper] = lackF xs (ds.take (j + 1)) by rw [lackF_yes HT.out hyes, HSS.out])
                rw [h4] at r1
                go_wp2_with (at_builtin; refine wp_append1 RStr.ok _ rfl _ _ 26 rfl B0 9 (.string ⟨#[]⟩) 1 16 Tryd.underlying26 (by kernel_rfl) rfl (by decide) (fun _ => False) _ ss rfl (hacc8.keepAll RStr.ok (Kept.alloc _ _ _)) ⟨_, 0, none⟩ 1 [.string y.paper] rfl rfl (World.news_of_block (cs := #[.string y.paper]) (heap_alloc_new w7 _)) (by simp [Value.oneCell']) y.paper ⟨rfl, hz0⟩ (by have := Hsl.out; omega) (by decide) (by simp; omega) ?_)
                intro p' c' w9 hacc9 hg9 _
                have hw9 : Kept (fun k => k ≠ mb) w3 w9 := (hw8.then_alloc _).grown hg9 (fun k hk => Or.inl (by have := (hacc8.lt k hk).1; omega))
                have hset9 := hset8.keep (F := fun k => k < B0) ((Kept.alloc _ _ _).grown hg9 (fun k hk => Or.inr (by have := (hacc8.lt k hk).1; omega))) (by omega)
                clear hacc8 hg9 hw8 hset8 r0 r1 hsz8
                go_wp2_with fail
                go_roundw
                case rel => exact ⟨j + 1, _, by omega, by go_num, hnx.out, hnl.out, hacc9, hset9, hw9⟩
                case measure => simp [intOf]; omega
      · have hd : decide ((j : Int) < (len : Int)) = false := by simp; omega
        have hjl : ds.length ≤ j := by have := Hlen.out; omega
        have hfin := Lib.hid (HSS.out.trans (lackF_all (xs := xs) hjl))
        have hok := Lib.hid (missF_ok HF.out (HA.out.ok hjl))
        clear hset hjl
        go_wp2_with fail
        refine (sort_any _ ss _ hacc (by have := Hsl.out; omega)).mono ?_
        rintro e w4 ⟨rfl, hacc4, hg4⟩
        have hw4 : Kept (fun k => k ≠ mb) w3 w4 := hwo.grown hg4 (fun k hk => Or.inl (by have := (hacc.lt k hk).1; omega))
        obtain ⟨a4, c4, hv4, hsl4⟩ := hacc4.sl RStr.ok (by decide) (G := fun _ => True) (fun _ h => h.elim) (fun _ _ => trivial)
        rw [hfin.out] at hv4 hsl4
        cases hv4
        clear hacc hacc4 hg4
        go_wp2_with fail
        go_ret2
        exact ⟨_, _, _, _, hok.out, rfl, hsl4, hk3.trans2 hw4 fun i hi _ => by omega⟩
  · have d0 : (finalsF xs != 0) = true := by simp [hfz]
    have hfin := Lib.hid (missF_fin (ds := ds) hfz)
    clear hfz
    go_enter Tryd.func55, Tryd.ntmps55
    go_wp2_with fail
    refine (checkFinals_any af lf cf xs _ hf hlf hg).mono ?_
    rintro e w2 ⟨rfl, hk2⟩
    go_wp2_with fail
    go_ret2
    exact MissPost.fail hfin.out hk2
end Go.Proofs.YteanedcfiellkaaDoor
