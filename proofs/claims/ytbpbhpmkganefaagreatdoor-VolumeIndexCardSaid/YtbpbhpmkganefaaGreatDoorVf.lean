/- VolumeFault answers volF. -/
import Derived.Test.YtbpbhpmkganefaaGreatDoorVe
import Derived.Test.YtbpbhpmkganefaaGreatDoorGh
import Derived.Test.YtbpbhpmkganefaaGreatDoorKc
namespace Go.Proofs.YtbpbhpmkganefaaGreatDoor
open Go.RowKit


set_option maxRecDepth 100000 in
set_option maxHeartbeats 12800000 in
theorem volumeFault_any (first : Int) (right : Bool) (av : Option Addr) (lv cv : Nat) (cs : List Chap) (af : Option Addr) (lf cf : Nat) (xs : List Fin4) (w : World)
    (hv : Sl RChap 2 (fun _ => True) w av lv cs) (hf : Sl RFin 4 (fun _ => True) w af lf xs) (hlv : lv ≤ 1000) (hlf : lf ≤ 1000) (hg : Glob w) :
    Calls Tryz.prog 9 #[.agg #[.int .i64 first, .bool right, .slice av lv cv], .slice af lf cf] w fun e w' => e = .returned (.int .i64 (volF first right cs xs)) ∧ All w w' := by
  have Hlen := Lib.hid hv.len
  have HG := Lib.hid hg
  have hk0 : All w (w.alloc (.cells #[.int .i64 first, .bool right, .slice av lv cv] 30)) := Kept.alloc _ _ _
  have hblk := heap_at w (.cells #[.int .i64 first, .bool right, .slice av lv cv] 30) _ rfl
  have v0 := cell_at (i := 0) hblk rfl
  have vr := cell_at (i := 1) hblk rfl
  have v2 := cell_at (i := 2) hblk rfl
  clear hblk hg
  by_cases hfz : finalsF xs = 0
  · have HF := Lib.hid hfz
    by_cases hout : first < 1 ∨ 5000 < first
    · have hfin := Lib.hid (volF_arg (right := right) (cs := cs) hfz hout)
      have hdo : decide ((1 : Int) ≤ first ∧ first ≤ 5000) = false := by simp; omega
      clear hout
      go_enter Tryz.func9, Tryz.ntmps9
      go_wp2_with fail
      refine (finalsFault_any af lf cf xs _ (hf.keep RFin.ok hk0) hlf (HG.out.keep hk0)).mono ?_
      rintro e w2 ⟨rfl, hw2⟩
      have hk2 := hk0.trans hw2
      have v0' := hw2.cell v0 trivial
      have vr' := hw2.cell vr trivial
      have v2' := hw2.cell v2 trivial
      rw [hfz]
      go_wp2_with fail
      refine (in_any _ _ _ _).mono ?_
      rintro e w' ⟨rfl, rfl⟩
      rw [hdo]
      go_wp2_with fail
      go_ret
      exact ⟨ret_int' hfin.out.symm, hk2⟩
    · have HO := Lib.hid hout
      have hdo : decide ((1 : Int) ≤ first ∧ first ≤ 5000) = true := by simp; omega
      have hf1 : 1 ≤ first := by omega
      have hf2 : first ≤ 5000 := by omega
      clear hout
      by_cases h40 : 40 < lv
      · have hfin := Lib.hid (volF_large (right := right) (cs := cs) hfz HO.out (by have := Hlen.out; omega))
        have d40 : decide ((40 : Int) < (lv : Int)) = true := by simp; omega
        go_enter Tryz.func9, Tryz.ntmps9
        go_wp2_with fail
        refine (finalsFault_any af lf cf xs _ (hf.keep RFin.ok hk0) hlf (HG.out.keep hk0)).mono ?_
        rintro e w2 ⟨rfl, hw2⟩
        have hk2 := hk0.trans hw2
        have v0' := hw2.cell v0 trivial
        have vr' := hw2.cell vr trivial
        have v2' := hw2.cell v2 trivial
        rw [hfz]
        go_wp2_with fail
        refine (in_any _ _ _ _).mono ?_
        rintro e w' ⟨rfl, rfl⟩
        rw [hdo]
        go_wp2_with fail
        go_ret
        exact ⟨ret_int' hfin.out.symm, hk2⟩
      · have HL40 := Lib.hid (show ¬ 40 < cs.length by have := Hlen.out; omega)
        have HRs := Lib.hid (finalsF_rises hfz)
        have d40 : decide ((40 : Int) < (lv : Int)) = false := by simp; omega
        have hlv' : lv ≤ 40 := by omega
        go_enter Tryz.func9, Tryz.ntmps9
        go_wp2_with fail
        refine (finalsFault_any af lf cf xs _ (hf.keep RFin.ok hk0) hlf (HG.out.keep hk0)).mono ?_
        rintro e w2 ⟨rfl, hw2⟩
        have hk2 := hk0.trans hw2
        have v0' := hw2.cell v0 trivial
        have vr' := hw2.cell vr trivial
        have v2' := hw2.cell v2 trivial
        rw [hfz]
        have hb1 : w.heap.size < w2.heap.size := lt_of_cell v0'
        go_wp2_with fail
        refine (in_any _ _ _ _).mono ?_
        rintro e w' ⟨rfl, rfl⟩
        rw [hdo]
        go_wp2_with fail
        obtain ⟨w3, rfl⟩ : ∃ w3 : World, w3 = w2 := ⟨_, rfl⟩
        have hk3 := hk2
        have v0 := v0'
        have vr := vr'
        have v2 := v2'
        clear v0' vr' v2' hw2
        have hv3 := hv.keep RChap.ok hk3
        have hf3 := hf.keep RFin.ok hk3
        have HG3 := Lib.hid (HG.out.keep hk3)
        have hcnt := hv3.allP_le hlv'
        go_loopw [6, 28] (fun s i wr => ∃ (k : Nat), k ≤ lv ∧ i = .int .i64 k ∧ ChapAt xs cs k ∧ Acc RStr 1 9 (fun _ => False) w3.heap.size wr s (allP (cs.take k)) ∧ All w3 wr) (fun _ i _ => lv - (intOf i).toNat)
        case atStart => exact ⟨0, Nat.zero_le _, rfl, ChapAt.zero _ _, Acc.nil _ _ _ _ _ _, Kept.refl _ _⟩
        case round =>
          obtain ⟨k, hk, rfl, hcat, hset, hwo⟩ := hrel
          obtain ⟨wo, rfl⟩ : ∃ wo : World, wo = wr := ⟨_, rfl⟩
          by_cases hlt : k < lv
          · obtain ⟨bc, oc, x, ap, cp, hac, hFb, c0, c1, hz1, hz2, hcp, hpp, hx, -⟩ := hv3.atChap hlt
            subst hac
            replace c0 := hwo.cell c0 hFb
            replace c1 := hwo.cell c1 hFb
            have Hx := Lib.hid hx
            have hwa := hwo.then_alloc (.cells #[.string x.title, .slice ap x.papers.length cp] 65)
            have hblk := heap_at wo (.cells #[.string x.title, .slice ap x.papers.length cp] 65) _ rfl
            have e0 := cell_at (i := 0) hblk rfl
            have e1 := cell_at (i := 1) hblk rfl
            have hseta := hset.keepAll RStr.ok (Kept.alloc (fun _ => True) wo (.cells #[.string x.title, .slice ap x.papers.length cp] 65))
            clear hblk hset hwo hx
            cases h5 : lineB x.title 200 with
            | false =>
              have hfin := Lib.hid (volF_chap (right := right) HF.out HO.out HL40.out (hcat.form Hx.out h5) (by decide))
              go_wp2_with fail
              refine (named_any x.title 200 _ hz1 (HG3.out.kept hwa trivial trivial trivial)).mono ?_
              rintro e w4 ⟨rfl, hw4⟩
              rw [h5]
              go_wp2_with fail
              go_ret
              exact ⟨ret_int' hfin.out.symm, (hk3.trans hwa).trans hw4⟩
            | true =>
              go_wp2_with fail
              refine (named_any x.title 200 _ hz1 (HG3.out.kept hwa trivial trivial trivial)).mono ?_
              rintro e w4 ⟨rfl, hw4⟩
              rw [h5]
              have hwd := hwa.trans (Kept.all hw4)
              replace e1 := hw4.cell e1 trivial
              replace hseta := hseta.keepAll RStr.ok hw4
              clear hwa hw4 e0
              go_wp2_with fail
              go_loopw [6, 39] (fun s i wr => ∃ (j : Nat), j ≤ x.papers.length ∧ i = .int .i64 j ∧ PapAt xs (allP (cs.take k)) x.papers j ∧ Acc RStr 1 9 (fun _ => False) w3.heap.size wr s (allP (cs.take k) ++ x.papers.take j) ∧ All w3 wr) (fun _ i _ => x.papers.length - (intOf i).toNat)
              case atStart => exact ⟨0, Nat.zero_le _, rfl, PapAt.zero _ _ _, by rw [List.take_zero, List.append_nil]; exact hseta, hwd⟩
              case round =>
                clear hseta
                obtain ⟨j, hj, rfl, hpat, hset, hwi⟩ := hrel
                obtain ⟨wi, rfl⟩ : ∃ wi : World, wi = wr := ⟨_, rfl⟩
                have hwi' := hwi
                by_cases hjl : j < x.papers.length
                · obtain ⟨bp, op, y, hap, -, cy, hyz, hy, -, hytk⟩ := (hpp.keep RStr.ok hwi').atStr hjl
                  subst hap
                  have HY := Lib.hid hy
                  have HC := Lib.hid hcat
                  have HPA := Lib.hid hpat
                  have HTK := Lib.hid hytk
                  have hlen1 := allP_len (j := j) Hx.out
                  have hnn : (allP (cs.take k) ++ x.papers.take j).length ≤ 1000000 := by omega
                  have HPL := Lib.hid (show (allP (cs.take k) ++ x.papers.take j).length + 1 = (allP (cs.take k) ++ x.papers.take (j + 1)).length by
                    rw [hytk, ← List.append_assoc, List.length_append (bs := [y]), List.length_singleton])
                  have hf3i := hf3.keep RFin.ok hwi'
                  have HSN := Lib.hid (show allP (cs.take k) ++ x.papers.take (j + 1) = (allP (cs.take k) ++ x.papers.take j) ++ [y] by rw [hytk, List.append_assoc])
                  clear hy hcat hpat hytk hpp
                  cases h6 : (finOf xs y).isSome with
                  | false =>
                    have hfin := Lib.hid (volF_chap (right := right) HF.out HO.out HL40.out (HC.out.bad Hx.out h5 (HPA.out.none HY.out h6) (by decide)) (by decide))
                    have fno := findG_neg (k := 0) (show xs.any (isPaper y) = false by rw [← any_find]; exact h6)
                    generalize allP (cs.take k) ++ x.papers.take j = sn at *
                    go_wp2_with fail
                    refine (finalAt_any af lf cf xs y _ (hf3i) (by omega)).mono ?_
                    rintro e w5 ⟨rfl, hw5⟩
                    have hwi5 := hwi.trans hw5
                    rw [fno]
                    go_wp2_with fail
                    go_ret
                    exact ⟨ret_int' hfin.out.symm, hk3.trans hwi5⟩
                  | true =>
                    have fge := findG_nonneg (k := 0) (show xs.any (isPaper y) = true by rw [← any_find]; exact h6)
                    cases h7 : memB y (allP (cs.take k) ++ x.papers.take j) with
                    | true =>
                      have hfin := Lib.hid (volF_chap (right := right) HF.out HO.out HL40.out (HC.out.bad Hx.out h5 (HPA.out.twice HY.out h6 h7) (by decide)) (by decide))
                      generalize allP (cs.take k) ++ x.papers.take j = sn at *
                      go_wp2_with fail
                      refine (finalAt_any af lf cf xs y _ (hf3i) (by omega)).mono ?_
                      rintro e w5 ⟨rfl, hw5⟩
                      have hwi5 := hwi.trans hw5
                      have hset5 := hset.keepAll RStr.ok hw5
                      obtain ⟨asn, csn, hsn, hssl⟩ := hset5.sl RStr.ok (by decide) (G := fun _ => True) (fun _ _ => trivial) (fun _ _ => trivial)
                      subst hsn
                      go_wp2_with fail
                      refine (contains_any _ _ _ sn y _ hssl (by omega)).mono ?_
                      rintro e w' ⟨rfl, rfl⟩
                      rw [h7]
                      clear hssl
                      go_wp2_with fail
                      go_ret
                      exact ⟨ret_int' hfin.out.symm, hk3.trans hwi5⟩
                    | false =>
                      have hnx := Lib.hid (HPA.out.next HY.out h6 h7)
                      generalize allP (cs.take k) ++ x.papers.take j = sn at *
                      go_wp2_with fail
                      refine (finalAt_any af lf cf xs y _ (hf3i) (by omega)).mono ?_
                      rintro e w5 ⟨rfl, hw5⟩
                      have hwi5 := hwi.trans hw5
                      have hset5 := hset.keepAll RStr.ok hw5
                      obtain ⟨asn, csn, hsn, hssl⟩ := hset5.sl RStr.ok (by decide) (G := fun _ => True) (fun _ _ => trivial) (fun _ _ => trivial)
                      subst hsn
                      go_wp2_with fail
                      refine (contains_any _ _ _ sn y _ hssl (by omega)).mono ?_
                      rintro e w' ⟨rfl, rfl⟩
                      rw [h7]
                      clear hssl
                      go_wp2_with (at_builtin; refine wp_append1 RStr.ok _ rfl _ _ 32 rfl w3.heap.size 9 (.string ⟨#[]⟩) 1 16 Tryz.underlying32 (by kernel_rfl) rfl (by decide) (fun _ => False) _ sn rfl (hset5.keepAll RStr.ok (Kept.alloc _ _ _)) ⟨_, 0, none⟩ 1 [.string y] rfl rfl (World.news_of_block (cs := #[.string y]) (heap_alloc_new w5 _)) (by simp [Value.oneCell']) y ⟨rfl, hyz⟩ (by omega) (by decide) (by have := hwi5.size; simp; omega) ?_)
                      intro p' c' w6 hset6 hg6 _
                      have hwi6 : All w3 w6 := (hwi5.then_alloc _).grown hg6 (fun k hk => Or.inl (hset5.lt k hk).1)
                      clear hset5 hg6
                      go_wp2_with fail
                      go_roundw
                      case rel => exact ⟨j + 1, by omega, by go_num, hnx.out, by rw [HSN.out]; exact hset6, hwi6⟩
                      case measure => simp [intOf]; omega
                · have hdj : decide ((j : Int) < (x.papers.length : Int)) = false := by simp; omega
                  have e3 := show allP (cs.take (k + 1)) = allP (cs.take k) ++ x.papers.take j by rw [allP_succ Hx.out, List.take_of_length_le (l := x.papers) (by omega)]
                  have hnx := Lib.hid (hcat.next Hx.out h5 (hpat.ok (by omega)))
                  rw [← e3] at hset
                  clear e3 hcat hpat
                  go_wp2_with fail
                  go_roundw
                  case rel => exact ⟨k + 1, by omega, by go_num, hnx.out, hset, hwi⟩
                  case measure => simp [intOf]; omega
          · have hd : decide ((k : Int) < (lv : Int)) = false := by simp; omega
            have hch := hcat.ok (by have := Hlen.out; omega)
            have hve := Lib.hid (volF_end (right := right) HF.out HO.out HL40.out hch)
            have hfound := Lib.hid (chapsF_found hch)
            have z0 := hwo.cell v0 trivial
            have zr := hwo.cell vr trivial
            have z2 := hwo.cell v2 trivial
            clear hcat hch hset
            go_wp2_with fail
            refine (pagesOf_any first right av lv cv cs af lf cf xs _ (hv3.keep RChap.ok hwo) (hf3.keep RFin.ok hwo) hlv' hlf HRs.out.2 hfound.out hf1 hf2).mono ?_
            rintro e w5 ⟨v, rfl, hacc, hw5⟩
            have hend : All w w5 := (hk3.trans hwo).trans hw5
            have hlsl : (leavesF xs right first (allP cs)).length ≤ 40000 := by rw [leavesF_length]; exact hcnt
            generalize leavesF xs right first (allP cs) = ls at *
            obtain ⟨al, cl, hvl, hsl⟩ := hacc.sl RLeaf.ok (by decide) (G := fun _ => True) (fun _ h => h.elim) (fun _ _ => trivial)
            subst hvl
            clear hacc
            cases hll : ls.length with
            | zero =>
              have hfin := Lib.hid (show volF first right cs xs = 0 by rw [hve.out, tooLong_nil hll]; rfl)
              go_wp2_with fail
              go_ret
              exact ⟨ret_int' hfin.out.symm, hend⟩
            | succ n =>
              rw [hll] at hsl hlsl
              obtain ⟨bl, ol, vs, y, hal, -, -, hcl, hRy, hy, -, -⟩ := hsl.at (k := n) (by omega)
              obtain ⟨rfl, -⟩ := hRy
              have cl2 : w5.cell? ⟨bl, ol + n * 3 + 2, none⟩ = some (.int .i64 y.hi) := hcl 2 (by simp)
              have htl := tooLong_last hll hy
              subst hal
              clear hcl hsl hy hll
              by_cases h5k : 5000 < y.hi
              · have hfin := Lib.hid (show volF first right cs xs = 2 by rw [hve.out, htl, decide_eq_true h5k]; rfl)
                have d5 : decide (5000 < y.hi) = true := decide_eq_true h5k
                clear htl
                go_wp2_with fail
                go_ret
                exact ⟨ret_int' hfin.out.symm, hend⟩
              · have hfin := Lib.hid (show volF first right cs xs = 0 by rw [hve.out, htl, decide_eq_false h5k]; rfl)
                have d5 : decide (5000 < y.hi) = false := decide_eq_false h5k
                clear htl
                go_wp2_with fail
                go_ret
                exact ⟨ret_int' hfin.out.symm, hend⟩
  · have hfin := Lib.hid (volF_fin (first := first) (right := right) (cs := cs) hfz)
    have d0 : (finalsF xs != 0) = true := by simp [hfz]
    clear hfz
    go_enter Tryz.func9, Tryz.ntmps9
    go_wp2_with fail
    refine (finalsFault_any af lf cf xs _ (hf.keep RFin.ok hk0) hlf (HG.out.keep hk0)).mono ?_
    rintro e w2 ⟨rfl, hw2⟩
    have hk2 := hk0.trans hw2
    have v0' := hw2.cell v0 trivial
    have vr' := hw2.cell vr trivial
    have v2' := hw2.cell v2 trivial
    go_wp2_with fail
    go_ret
    exact ⟨ret_int' hfin.out.symm, hk2⟩
end Go.Proofs.YtbpbhpmkganefaaGreatDoor
