/- CheckVolume answers volF. -/
import Derived.Test.YtbpbhpmkganefaaGreatDoorVd
import Derived.Test.YtbpbhpmkganefaaGreatDoorMa
namespace Go.Proofs.YtbpbhpmkganefaaGreatDoor
open Go.RowKit

theorem tooLong_nil {ls : List Leaf3} (h : ls.length = 0) : tooLong ls = false := by
  have := List.eq_nil_of_length_eq_zero h
  subst this; rfl
theorem tooLong_last {ls : List Leaf3} {n : Nat} {y : Leaf3} (h : ls.length = n + 1) (hy : ls[n]? = some y) : tooLong ls = decide (5000 < y.hi) := by
  unfold tooLong
  rw [List.getLast?_eq_getElem?, h, Nat.add_sub_cancel, hy]
theorem zeroB (w : World) : (zeroValue 4).run Tryz.prog w = .ok (.bool false) w := by kernel_rfl
theorem any_find {xs : List Fin4} {p : ByteArray} : (finOf xs p).isSome = xs.any (isPaper p) := by
  unfold finOf
  cases h : xs.any (isPaper p) with
  | true =>
    rw [List.find?_isSome]
    obtain ⟨x, h1, h2⟩ := List.any_eq_true.1 h
    exact ⟨x, h1, h2⟩
  | false =>
    cases h2 : xs.find? (isPaper p) with
    | none => rfl
    | some f =>
      have h3 := List.find?_some h2
      have h4 := List.mem_of_find?_eq_some h2
      rw [List.any_eq_false] at h
      exact absurd h3 (h f h4)
theorem Glob.lt {w : World} (h : Glob w) : 2 < w.heap.size := by
  obtain ⟨m, hm⟩ := h.most
  have h1 := lt_of_cell hm
  have h2 := lt_of_cell (h.tabs.1 0 (by omega))
  have h3 := lt_of_cell (h.tabs.2 0 (by omega)).1
  dsimp only at h1 h2 h3
  omega

set_option maxRecDepth 100000 in
set_option maxHeartbeats 12800000 in
theorem checkVolume_any (first : Int) (right : Bool) (av : Option Addr) (lv cv : Nat) (cs : List Chap) (af : Option Addr) (lf cf : Nat) (xs : List Fin4) (w : World)
    (hv : Sl RChap 2 (fun _ => True) w av lv cs) (hf : Sl RFin 4 (fun _ => True) w af lf xs) (hlv : lv ≤ 1000) (hlf : lf ≤ 1000) (hg : Glob w) :
    Calls Tryz.prog 23 #[.agg #[.int .i64 first, .bool right, .slice av lv cv], .slice af lf cf] w fun e w' => e = .returned (.int .i64 (volF first right cs xs)) ∧ All w w' := by
  have Hlen := Lib.hid hv.len
  have HG := Lib.hid hg
  have hk0 : All w (w.alloc (.cells #[.int .i64 first, .bool right, .slice av lv cv] 30)) := Kept.alloc _ _ _
  have hblk := heap_at w (.cells #[.int .i64 first, .bool right, .slice av lv cv] 30) _ rfl
  have v0 := cell_at (i := 0) hblk rfl
  have vr := cell_at (i := 1) hblk rfl
  have v2 := cell_at (i := 2) hblk rfl
  clear hblk hg
  by_cases hfz : finalsF xs = 0
  · have HF := Lib.hid hfz
    by_cases hout : first < 1 ∨ 5000 < first
    · have hfin := Lib.hid (volF_arg (right := right) (cs := cs) hfz hout)
      have hdo : decide (first < 1 ∨ 5000 < first) = true := by simpa using hout
      clear hout
      go_enter Tryz.func23, Tryz.ntmps23
      go_wp2_with fail
      refine (checkFinals_any af lf cf xs _ (hf.keep RFin.ok hk0) hlf (HG.out.keep hk0)).mono ?_
      rintro e w2 ⟨rfl, hw2⟩
      have hk2 := hk0.trans hw2
      have v0' := hw2.cell v0 trivial
      have vr' := hw2.cell vr trivial
      have v2' := hw2.cell v2 trivial
      rw [hfz]
      go_wp2_with fail
      refine (outside_any _ _ _ _).mono ?_
      rintro e w' ⟨rfl, rfl⟩
      rw [hdo]
      go_wp2_with fail
      go_ret
      exact ⟨ret_int' hfin.out.symm, hk2⟩
    · have HO := Lib.hid hout
      have hdo : decide (first < 1 ∨ 5000 < first) = false := by simpa using hout
      have hf1 : 1 ≤ first := by omega
      have hf2 : first ≤ 5000 := by omega
      clear hout
      by_cases h40 : 40 < lv
      · have hfin := Lib.hid (volF_large (right := right) (cs := cs) hfz HO.out (by have := Hlen.out; omega))
        have d40 : decide ((40 : Int) < (lv : Int)) = true := by simp; omega
        go_enter Tryz.func23, Tryz.ntmps23
        go_wp2_with fail
        refine (checkFinals_any af lf cf xs _ (hf.keep RFin.ok hk0) hlf (HG.out.keep hk0)).mono ?_
        rintro e w2 ⟨rfl, hw2⟩
        have hk2 := hk0.trans hw2
        have v0' := hw2.cell v0 trivial
        have vr' := hw2.cell vr trivial
        have v2' := hw2.cell v2 trivial
        rw [hfz]
        go_wp2_with fail
        refine (outside_any _ _ _ _).mono ?_
        rintro e w' ⟨rfl, rfl⟩
        rw [hdo]
        go_wp2_with fail
        go_ret
        exact ⟨ret_int' hfin.out.symm, hk2⟩
      · have HL40 := Lib.hid (show ¬ 40 < cs.length by have := Hlen.out; omega)
        have HRs := Lib.hid (finalsF_rises hfz)
        have d40 : decide ((40 : Int) < (lv : Int)) = false := by simp; omega
        have hlv' : lv ≤ 40 := by omega
        have hmm := @run_makeMap Tryz.prog
        go_enter Tryz.func23, Tryz.ntmps23
        go_wp2_with fail
        refine (checkFinals_any af lf cf xs _ (hf.keep RFin.ok hk0) hlf (HG.out.keep hk0)).mono ?_
        rintro e w2 ⟨rfl, hw2⟩
        have hk2 := hk0.trans hw2
        have v0' := hw2.cell v0 trivial
        have vr' := hw2.cell vr trivial
        have v2' := hw2.cell v2 trivial
        rw [hfz]
        have hb1 : w.heap.size < w2.heap.size := lt_of_cell v0'
        go_wp2_with fail
        refine (outside_any _ _ _ _).mono ?_
        rintro e w' ⟨rfl, rfl⟩
        rw [hdo]
        go_wp2_with fail
        have hset0 := SetM.made Tryz.prog 9 4 w2
        have hk3 : All w (w2.alloc (.map #[] 0)) := hk2.then_alloc _
        have v0 := Kept.cell (F := fun _ => True) (Kept.alloc _ w2 (.map #[] 0)) v0' trivial
        have vr := Kept.cell (F := fun _ => True) (Kept.alloc _ w2 (.map #[] 0)) vr' trivial
        have v2 := Kept.cell (F := fun _ => True) (Kept.alloc _ w2 (.map #[] 0)) v2' trivial
        have hz3 : w2.heap.size < (w2.alloc (.map #[] 0)).heap.size := by simp
        have hws := hk2.size
        clear v0' vr' v2' hw2
        generalize hmb : w2.heap.size = mb at *
        generalize w2.alloc (.map #[] 0) = w3 at *
        clear hmb
        have hv3 : Sl RChap 2 (fun k => k ≠ mb) w3 av lv cs := ((hv.live RChap.ok (by decide)).keep RChap.ok (Kept.all hk3)).mono RChap.ok (fun k hk => by have := hk.2; omega)
        have hf3 : Sl RFin 4 (fun k => k ≠ mb) w3 af lf xs := ((hf.live RFin.ok (by decide)).keep RFin.ok (Kept.all hk3)).mono RFin.ok (fun k hk => by have := hk.2; omega)
        have HG3 := Lib.hid (HG.out.keep hk3)
        have hg3 : 2 < mb := by have := HG.out.lt; omega
        have hcnt := hv3.allP_le hlv'

        go_loopw [30] (fun i wr => ∃ (k : Nat), k ≤ lv ∧ i = .int .i64 k ∧ ChapAt xs cs k ∧ SetM Tryz.prog 9 4 wr mb (allP (cs.take k)).length (allP (cs.take k)) ∧ Kept (fun k => k ≠ mb) w3 wr) (fun i _ => lv - (intOf i).toNat)
        case atStart => exact ⟨0, Nat.zero_le _, rfl, ChapAt.zero _ _, hset0, Kept.refl _ _⟩
        case round =>
          obtain ⟨k, hk, rfl, hcat, hset, hwo⟩ := hrel
          obtain ⟨wo, rfl⟩ : ∃ wo : World, wo = wr := ⟨_, rfl⟩
          by_cases hlt : k < lv
          · obtain ⟨bc, oc, x, ap, cp, hac, hFb, c0, c1, hz1, hz2, hcp, hpp, hx, -⟩ := hv3.atChap hlt
            subst hac
            replace c0 := hwo.cell c0 hFb
            replace c1 := hwo.cell c1 hFb
            have Hx := Lib.hid hx
            have hwa := hwo.then_alloc (.cells #[.string x.title, .slice ap x.papers.length cp] 65)
            have hblk := heap_at wo (.cells #[.string x.title, .slice ap x.papers.length cp] 65) _ rfl
            have e0 := cell_at (i := 0) hblk rfl
            have e1 := cell_at (i := 1) hblk rfl
            have hseta := hset.keep (Kept.alloc (fun _ => True) wo (.cells #[.string x.title, .slice ap x.papers.length cp] 65)) trivial
            clear hblk hset hwo hx
            cases h5 : lineB x.title 200 with
            | false =>
              have hfin := Lib.hid (volF_chap (right := right) HF.out HO.out HL40.out (hcat.form Hx.out h5) (by decide))
              go_wp2_with fail
              refine (isLine_any x.title 200 _ hz1 (HG3.out.kept hwa (by omega) (by omega) (by omega))).mono ?_
              rintro e w4 ⟨rfl, hw4⟩
              rw [h5]
              go_wp2_with fail
              go_ret
              exact ⟨ret_int' hfin.out.symm, hk3.trans2 (hwa.trans (Kept.all hw4)) fun i hi _ => by omega⟩
            | true =>
              go_wp2_with fail
              refine (isLine_any x.title 200 _ hz1 (HG3.out.kept hwa (by omega) (by omega) (by omega))).mono ?_
              rintro e w4 ⟨rfl, hw4⟩
              rw [h5]
              have hwd := hwa.trans (Kept.all hw4)
              replace e1 := hw4.cell e1 trivial
              replace hseta := hseta.keep hw4 trivial
              clear hwa hw4 e0
              go_wp2_with fail
              go_loopw [41] (fun i wr => ∃ (j : Nat), j ≤ x.papers.length ∧ i = .int .i64 j ∧ PapAt xs (allP (cs.take k)) x.papers j ∧ SetM Tryz.prog 9 4 wr mb (allP (cs.take k) ++ x.papers.take j).length (allP (cs.take k) ++ x.papers.take j) ∧ Kept (fun k => k ≠ mb) w3 wr) (fun i _ => x.papers.length - (intOf i).toNat)
              case atStart => exact ⟨0, Nat.zero_le _, rfl, PapAt.zero _ _ _, by rw [List.take_zero, List.append_nil]; exact hseta, hwd⟩
              case round =>
                clear hseta
                obtain ⟨j, hj, rfl, hpat, hset, hwi⟩ := hrel
                obtain ⟨wi, rfl⟩ : ∃ wi : World, wi = wr := ⟨_, rfl⟩
                have hwi' := hwi
                by_cases hjl : j < x.papers.length
                · obtain ⟨bp, op, y, hap, -, cy, hyz, hy, -, hytk⟩ := (hpp.keep RStr.ok hwi').atStr hjl
                  subst hap
                  have HY := Lib.hid hy
                  have HC := Lib.hid hcat
                  have HPA := Lib.hid hpat
                  have HTK := Lib.hid hytk
                  have hlen1 := allP_len (j := j) Hx.out
                  have hnn : (allP (cs.take k) ++ x.papers.take j).length ≤ 1000000 := by omega
                  have HPL := Lib.hid (show (allP (cs.take k) ++ x.papers.take j).length + 1 = (allP (cs.take k) ++ x.papers.take (j + 1)).length by
                    rw [hytk, ← List.append_assoc, List.length_append (bs := [y]), List.length_singleton])
                  have hf3i := (hf3.keep RFin.ok hwi').mono RFin.ok (G := fun _ => True) (fun _ _ => trivial)
                  have HSN := Lib.hid (show allP (cs.take k) ++ x.papers.take (j + 1) = (allP (cs.take k) ++ x.papers.take j) ++ [y] by rw [hytk, List.append_assoc])
                  clear hy hcat hpat hytk hpp
                  cases h6 : (finOf xs y).isSome with
                  | false =>
                    have hfin := Lib.hid (volF_chap (right := right) HF.out HO.out HL40.out (HC.out.bad Hx.out h5 (HPA.out.none HY.out h6) (by decide)) (by decide))
                    go_wp2_with fail
                    refine (final_any af lf cf xs y _ (hf3i) hlf HRs.out.1).mono ?_
                    rintro e w5 ⟨rfl, hw5⟩
                    have hwi5 := hwi.trans (Kept.all hw5)
                    rw [h6]
                    go_wp2_with fail
                    go_ret
                    exact ⟨ret_int' hfin.out.symm, hk3.trans2 hwi5 fun i hi _ => by omega⟩
                  | true =>
                    cases h7 : memB y (allP (cs.take k) ++ x.papers.take j) with
                    | true =>
                      have hfin := Lib.hid (volF_chap (right := right) HF.out HO.out HL40.out (HC.out.bad Hx.out h5 (HPA.out.twice HY.out h6 h7) (by decide)) (by decide))
                      go_wp2_with fail
                      refine (final_any af lf cf xs y _ (hf3i) hlf HRs.out.1).mono ?_
                      rintro e w5 ⟨rfl, hw5⟩
                      have hwi5 := hwi.trans (Kept.all hw5)
                      rw [h6]
                      have hset5 := hset.keep hw5 trivial
                      have hlk := hset5.look Tryz.underlying9 Tryz.underlying4 Tryz.underlying93 (zeroB _) y hyz
                      rw [h7] at hlk
                      clear hset hset5
                      go_wp2_with fail
                      go_ret
                      exact ⟨ret_int' hfin.out.symm, hk3.trans2 hwi5 fun i hi _ => by omega⟩
                    | false =>
                      have hnx := Lib.hid (HPA.out.next HY.out h6 h7)
                      go_wp2_with fail
                      refine (final_any af lf cf xs y _ (hf3i) hlf HRs.out.1).mono ?_
                      rintro e w5 ⟨rfl, hw5⟩
                      have hwi5 := hwi.trans (Kept.all hw5)
                      rw [h6]
                      have hset5 := hset.keep hw5 trivial
                      have hlk := hset5.look Tryz.underlying9 Tryz.underlying4 Tryz.underlying93 (zeroB _) y hyz
                      rw [h7] at hlk
                      obtain ⟨w6, hrun6, hset6, hb6⟩ := hset5.put Tryz.underlying9 Tryz.underlying4 Tryz.underlying93 hnn y hyz
                      have hwi6 := hwi5.trans hb6
                      rw [HPL.out, List.append_assoc, ← HTK.out] at hset6
                      clear hset hset5 hb6
                      go_wp2_with fail
                      go_roundw
                      case rel => exact ⟨j + 1, by omega, by go_num, hnx.out, hset6, hwi6⟩
                      case measure => simp [intOf]; omega
                · have hdj : decide ((j : Int) < (x.papers.length : Int)) = false := by simp; omega
                  have e3 := show allP (cs.take (k + 1)) = allP (cs.take k) ++ x.papers.take j by rw [allP_succ Hx.out, List.take_of_length_le (l := x.papers) (by omega)]
                  have hnx := Lib.hid (hcat.next Hx.out h5 (hpat.ok (by omega)))
                  rw [← e3] at hset
                  clear e3 hcat hpat
                  go_wp2_with fail
                  go_roundw
                  case rel => exact ⟨k + 1, by omega, by go_num, hnx.out, hset, hwi⟩
                  case measure => simp [intOf]; omega
          · have hd : decide ((k : Int) < (lv : Int)) = false := by simp; omega
            have hch := hcat.ok (by have := Hlen.out; omega)
            have hve := Lib.hid (volF_end (right := right) HF.out HO.out HL40.out hch)
            have hfound := Lib.hid (chapsF_found hch)
            have z0 := hwo.cell v0 (by dsimp only; omega)
            have zr := hwo.cell vr (by dsimp only; omega)
            have z2 := hwo.cell v2 (by dsimp only; omega)
            clear hcat hch hset
            go_wp2_with fail
            refine (leaves_any first right av lv cv cs af lf cf xs _ ((hv3.keep RChap.ok hwo).mono RChap.ok (fun _ _ => trivial)) ((hf3.keep RFin.ok hwo).mono RFin.ok (fun _ _ => trivial)) hlv' hlf HRs.out.1 HRs.out.2 hfound.out hf1 hf2).mono ?_
            rintro e w5 ⟨v, rfl, hacc, hw5⟩
            have hend : All w w5 := hk3.trans2 (hwo.trans (Kept.all hw5)) fun i hi _ => by omega
            have hlsl : (leavesF xs right first (allP cs)).length ≤ 40000 := by rw [leavesF_length]; exact hcnt
            generalize leavesF xs right first (allP cs) = ls at *
            obtain ⟨al, cl, hvl, hsl⟩ := hacc.sl RLeaf.ok (by decide) (G := fun _ => True) (fun _ h => h.elim) (fun _ _ => trivial)
            subst hvl
            clear hacc
            cases hll : ls.length with
            | zero =>
              have hfin := Lib.hid (show volF first right cs xs = 0 by rw [hve.out, tooLong_nil hll]; rfl)
              go_wp2_with fail
              go_ret
              exact ⟨ret_int' hfin.out.symm, hend⟩
            | succ n =>
              rw [hll] at hsl hlsl
              obtain ⟨bl, ol, vs, y, hal, -, -, hcl, hRy, hy, -, -⟩ := hsl.at (k := n) (by omega)
              obtain ⟨rfl, -⟩ := hRy
              have cl2 : w5.cell? ⟨bl, ol + n * 3 + 2, none⟩ = some (.int .i64 y.hi) := hcl 2 (by simp)
              have htl := tooLong_last hll hy
              subst hal
              clear hcl hsl hy hll
              by_cases h5k : 5000 < y.hi
              · have hfin := Lib.hid (show volF first right cs xs = 2 by rw [hve.out, htl, decide_eq_true h5k]; rfl)
                have d5 : decide (5000 < y.hi) = true := decide_eq_true h5k
                clear htl
                go_wp2_with fail
                go_ret
                exact ⟨ret_int' hfin.out.symm, hend⟩
              · have hfin := Lib.hid (show volF first right cs xs = 0 by rw [hve.out, htl, decide_eq_false h5k]; rfl)
                have d5 : decide (5000 < y.hi) = false := decide_eq_false h5k
                clear htl
                go_wp2_with fail
                go_ret
                exact ⟨ret_int' hfin.out.symm, hend⟩
  · have hfin := Lib.hid (volF_fin (first := first) (right := right) (cs := cs) hfz)
    have d0 : (finalsF xs != 0) = true := by simp [hfz]
    clear hfz
    go_enter Tryz.func23, Tryz.ntmps23
    go_wp2_with fail
    refine (checkFinals_any af lf cf xs _ (hf.keep RFin.ok hk0) hlf (HG.out.keep hk0)).mono ?_
    rintro e w2 ⟨rfl, hw2⟩
    have hk2 := hk0.trans hw2
    have v0' := hw2.cell v0 trivial
    have vr' := hw2.cell vr trivial
    have v2' := hw2.cell v2 trivial
    go_wp2_with fail
    go_ret
    exact ⟨ret_int' hfin.out.symm, hk2⟩
end Go.Proofs.YtbpbhpmkganefaaGreatDoor
