/- Contents answers chapC. -/
import Derived.Test.YtiecaedgphdfdaaGreatDoorJd
import Derived.Test.YtiecaedgphdfdaaGreatDoorNc
namespace Go.Proofs.YtiecaedgphdfdaaGreatDoor
open Go.RowKit

/-- What all[1:] is. -/
theorem Sl.tail {α : Type} {R : Rel α} {sz : Nat} {F : Nat → Prop} {w : World} {b o c n : Nat} {xs : List α} (h : Sl R sz F w (some ⟨b, o, none⟩) n xs) (h0 : 0 < n) (hc : n ≤ c) :
    Sl R sz F w (if c = 1 then some ⟨b, o, none⟩ else some ((⟨b, o, none⟩ : Addr).add sz)) (n - 1) (xs.drop 1) := by
  have hl := h.1
  refine ⟨by simp [hl], fun h1 => ?_⟩
  obtain ⟨b', o', ha, hF, hr⟩ := h.2 h0
  cases ha
  rw [if_neg (by omega)]
  have hadd : (⟨b, o, none⟩ : Addr).add sz = ⟨b, o + sz, none⟩ := by
    unfold Addr.add; split
    · rename_i e; rw [e, Nat.add_zero]
    · rfl
  refine ⟨b, o + sz, by rw [hadd], hF, fun i hi => ?_⟩
  simp only [List.length_drop] at hi
  obtain ⟨vs, h2, h3, h4⟩ := hr (i + 1) (by omega)
  refine ⟨vs, h2, fun j hj => ?_, by simpa [Nat.add_comm 1 i] using h4⟩
  have := h3 j hj
  rw [Nat.add_mul, Nat.one_mul] at this
  have e : o + sz + i * sz + j = o + (i * sz + sz) + j := by omega
  rw [e]; exact this

theorem allP_at {cs : List Chap} {k j : Nat} {x : Chap} {y : ByteArray} (hx : cs[k]? = some x) (hy : x.papers[j]? = some y) : (allP cs)[(allP (cs.take k) ++ x.papers.take j).length]? = some y := by
  have h1 : allP cs = allP (cs.take k) ++ (x.papers ++ allP (cs.drop (k + 1))) := by
    have h2 : cs = cs.take k ++ x :: cs.drop (k + 1) := by rw [← drop_at hx, List.take_append_drop]
    conv => lhs; rw [h2]
    unfold allP
    rw [List.flatMap_append, List.flatMap_cons]
  obtain ⟨hj, rfl⟩ := List.getElem?_eq_some_iff.1 hy
  rw [h1, List.length_append, List.length_take, Nat.min_eq_left (by omega), List.getElem?_append_right (by omega), Nat.add_sub_cancel_left, List.getElem?_append_left hj, List.getElem?_eq_getElem hj]

noncomputable def contE (first : Int) (right : Bool) (cs : List Chap) (xs : List Fin4) : ByteArray := if volF first right cs xs ≠ 0 then ⟨#[]⟩ else ⟨(chapC xs (lvs first right cs xs) cs).toArray⟩

set_option maxRecDepth 100000 in
set_option maxHeartbeats 6400000 in
theorem contents_any (first : Int) (right : Bool) (av : Option Addr) (lv cv : Nat) (cs : List Chap) (af : Option Addr) (lf cf : Nat) (xs : List Fin4) (w : World)
    (hv : Sl RChap 2 (fun _ => True) w av lv cs) (hf : Sl RFin 4 (fun _ => True) w af lf xs) (hlv : lv ≤ 1000) (hlf : lf ≤ 1000) (hg : Glob w) (hp : Pow w) :
    Calls Tryz.prog 13 #[.agg #[.int .i64 first, .bool right, .slice av lv cv], .slice af lf cf] w fun e w' => e = .returned (.tuple #[.string (contE first right cs xs), .int .i64 (volF first right cs xs)]) ∧ All w w' := by
  have HG := Lib.hid hg
  have HP := Lib.hid hp
  have hk0 : All w (w.alloc (.cells #[.int .i64 first, .bool right, .slice av lv cv] 30)) := Kept.alloc _ _ _
  have hblk := heap_at w (.cells #[.int .i64 first, .bool right, .slice av lv cv] 30) _ rfl
  have v0 := cell_at (i := 0) hblk rfl
  have v1 := cell_at (i := 1) hblk rfl
  have v2 := cell_at (i := 2) hblk rfl
  clear hblk hg hp
  by_cases h0 : volF first right cs xs = 0
  · have H0 := Lib.hid h0
    have OK := Lib.hid (VolOk.of h0)
    have Hlen := Lib.hid hv.len
    have hlv' : lv ≤ 40 := by have := OK.out.len; have := hv.len; omega
    have HRs := Lib.hid (finalsF_rises OK.out.fin)
    go_enter Tryz.func13, Tryz.ntmps13
    go_wp2_with fail
    refine (checkVolume_any first right av lv cv cs af lf cf xs _ (hv.keep RChap.ok hk0) (hf.keep RFin.ok hk0) hlv hlf (HG.out.keep hk0)).mono ?_
    rintro e w2 ⟨rfl, hw2⟩
    have hk2 := hk0.trans hw2
    have v0' := hw2.cell v0 trivial
    have v1' := hw2.cell v1 trivial
    have v2' := hw2.cell v2 trivial
    rw [h0]
    go_wp2_with fail
    refine (leaves_any first right av lv cv cs af lf cf xs _ (hv.keep RChap.ok hk2) (hf.keep RFin.ok hk2) hlv' hlf HRs.out.1 HRs.out.2 (chapsF_found OK.out.chap) OK.out.lo OK.out.hi).mono ?_
    rintro e w3 ⟨v, rfl, hacc, hw3⟩
    have hk3 := hk2.trans hw3
    obtain ⟨a, cap, hve, hcap⟩ := hacc.form
    obtain ⟨a', cap', hve', hsl⟩ := hacc.sl RLeaf.ok (by decide) (G := fun k => k < w3.heap.size) (fun _ h => h.elim) (fun k hk => (hacc.lt k hk).2)
    subst hve
    cases hve'
    obtain ⟨ls, hls⟩ : ∃ ls, ls = lvs first right cs xs := ⟨_, rfl⟩
    have HLS := Lib.hid hls
    have hls' : leavesF xs right first (allP cs) = ls := hls.symm
    rw [hls'] at hsl hcap ⊢
    obtain ⟨n, hn⟩ : ∃ n, n = ls.length := ⟨_, rfl⟩
    have HN := Lib.hid (show n = (allP cs).length by rw [hn, hls, leavesF_length])
    rw [← hn] at hsl hcap ⊢
    have v2'' := hw3.cell v2' trivial
    have hv3 := ((hv.keep RChap.ok hk3).live RChap.ok (by decide)).mono RChap.ok (G := fun k => k < w3.heap.size) (fun k hk => hk.2)
    have hf3 := ((hf.keep RFin.ok hk3).live RFin.ok (by decide)).mono RFin.ok (G := fun k => k < w3.heap.size) (fun k hk => hk.2)
    have HPlt := HP.out.lt
    have hs3 := hk3.size
    have HP3 := Lib.hid (HP.out.keep hk3)
    obtain ⟨B, hB⟩ : ∃ B, B = w3.heap.size := ⟨_, rfl⟩
    have HB := Lib.hid hB
    have hkb : Kept (fun k => k < B) w3 (w3.alloc (.cells #[.pointer none, .slice none 0 0] 112)) := Kept.alloc _ _ _
    have hbld : Bld (w3.alloc (.cells #[.pointer none, .slice none 0 0] 112)) B [] := by rw [hB]; exact Bld.fresh w3
    have v2b := hkb.cell v2'' (by have := lt_of_cell v2''; rw [hB]; exact this)
    rw [← hB] at hsl hv3 hf3 hs3
    have HBw : w.heap.size ≤ B := hs3
    clear hacc hls' hls hn v0 v1 v2 v0' v1' v2' hw2 hw3 hk2 h0
    go_wp2_with fail
    rw [← HB.out]
    clear hB
    generalize w3.alloc (.cells #[.pointer none, .slice none 0 0] 112) = wb at *
    go_loopw [7, 27] (fun u i wr => ∃ (k : Nat), k ≤ lv ∧ i = .int .i64 k ∧ ∃ (a : Option Addr) (m c : Nat), u = .slice a m c ∧ m ≤ c ∧ m + (allP (cs.take k)).length = n ∧ Sl RLeaf 3 (fun k => k < B) wr a m (ls.drop (allP (cs.take k)).length) ∧ Bld wr B (chapC xs ls (cs.take k)) ∧ Kept (fun k => k < B) w3 wr) (fun _ i _ => lv - (intOf i).toNat)
    case atStart => exact ⟨0, Nat.zero_le _, rfl, a, n, cap, rfl, hcap, by simp [allP], by simpa [allP] using hsl.keep RLeaf.ok hkb, by simpa [chapC] using hbld, hkb⟩
    case round =>
      clear hsl hbld hcap hkb
      obtain ⟨k, hk, rfl, a, m, c, rfl, hmc, hmn, hsl, hbld, hkr⟩ := hrel
      obtain ⟨wo, rfl⟩ : ∃ wo : World, wo = wr := ⟨_, rfl⟩
      have HMN := Lib.hid hmn
      have hchb := chapC_take xs ls cs k
      have htot := chapC_total OK.out
      rw [← HLS.out] at htot
      have HCB := Lib.hid hchb
      have HTT := Lib.hid htot
      clear hmn hchb htot
      by_cases hlt : k < lv
      · obtain ⟨bc, oc, x, ap, cp, hac, hbcB, c0, c1, hz1, hz2, hcp, hpp, hx, -⟩ := (hv3.keep RChap.ok hkr).atChap hlt
        have Hx := Lib.hid hx
        have htis : x.title.size ≤ 200 := by have := (lineB_size (chapsF_titles OK.out.chap x (List.mem_of_getElem? hx))).2; omega
        subst hac
        have hblk := heap_at wo (.cells #[.string x.title, .slice ap x.papers.length cp] 107) _ rfl
        have e0 := cell_at (i := 0) hblk rfl
        have e1 := cell_at (i := 1) hblk rfl
        have hbldA := hbld.keep (Kept.alloc (fun _ => True) wo (.cells #[.string x.title, .slice ap x.papers.length cp] 107))
        have hkA := hkr.then_alloc (.cells #[.string x.title, .slice ap x.papers.length cp] 107)
        have hslA := hsl.keep RLeaf.ok (Kept.alloc (fun k => k < B) wo (.cells #[.string x.title, .slice ap x.papers.length cp] 107))
        have hppA := hpp.keep RStr.ok (Kept.alloc (fun k => k < B) wo (.cells #[.string x.title, .slice ap x.papers.length cp] 107))
        have hwoB := hbld.lt
        clear hx hsl hbld hpp
        go_wp2_with fail
        refine (write_any B _ _ _ hbldA (by have := HCB.out; have := HTT.out; rw [ByteArray.size_append]; have : (⟨#[10]⟩ : ByteArray).size = 1 := rfl; omega)).mono ?_
        rintro e w5 ⟨rfl, hbld5, hk5, hok5⟩
        have hbk5 := hok5 _ _ hblk (by simp; omega) (by simp)
        have e1' := cell_at (i := 1) hbk5 rfl
        have hkr5 := hkA.trans hk5
        have hsl5 := hslA.keep RLeaf.ok hk5
        have hpp5 := hppA.keep RStr.ok hk5
        clear hblk hbk5 hok5 hbldA hkA hslA hppA hkr hk5 c0 c1 e0 e1
        go_wp2_with fail
        go_loopw [7, 38] (fun u i wr => ∃ (j : Nat), j ≤ x.papers.length ∧ i = .int .i64 j ∧ ∃ (a : Option Addr) (m c : Nat), u = .slice a m c ∧ m ≤ c ∧ m + (allP (cs.take k) ++ x.papers.take j).length = n ∧ Sl RLeaf 3 (fun k => k < B) wr a m (ls.drop (allP (cs.take k) ++ x.papers.take j).length) ∧ Bld wr B (chapC xs ls (cs.take k) ++ ((headC x.title).data.toList ++ papC xs ls (x.papers.take j))) ∧ Kept (fun k => k < B) w5 wr) (fun _ i _ => x.papers.length - (intOf i).toNat)
        case atStart => exact ⟨0, Nat.zero_le _, rfl, a, m, c, rfl, hmc, by simpa using HMN.out, by simpa using hsl5, by simpa [papC, headC] using hbld5, Kept.refl _ _⟩
        case round =>
          clear hsl5 hbld5 hmc HMN
          obtain ⟨j, hj, rfl, a, m, c, rfl, hmc, hmn, hsl, hbld, hk5i⟩ := hrel
          have hkr := hkr5.trans hk5i
          obtain ⟨wi, rfl⟩ : ∃ wi : World, wi = wr := ⟨_, rfl⟩
          have HMN := Lib.hid hmn
          have HCP := Lib.hid (chapC_part (xs := xs) (ls := ls) Hx.out j)
          clear hmn
          by_cases hjl : j < x.papers.length
          · obtain ⟨bp, op, y, hap, -, cy, hyz, hy, -, hytk⟩ := (hpp5.keep RStr.ok hk5i).atStr hjl
            subst hap
            have hmem : y ∈ allP cs := allP_sub (j := j + 1) Hx.out (List.mem_append_right _ (by rw [hytk]; simp))
            obtain ⟨f, hfo⟩ := Option.isSome_iff_exists.1 (chapsF_found OK.out.chap y hmem)
            obtain ⟨hfx, hfp⟩ := finOf_cnt HRs.out.1 hfo
            have hcn : cntOf xs y < lf := by
              obtain ⟨hh, -⟩ := List.getElem?_eq_some_iff.1 hfx
              have := hf.len
              omega
            have hpre : (allP (cs.take k) ++ x.papers.take (j + 1)).length = (allP (cs.take k) ++ x.papers.take j).length + 1 := by rw [hytk, ← List.append_assoc, List.length_append (bs := [y]), List.length_singleton]
            have hpl := allP_len (j := j + 1) Hx.out
            rw [hpre, ← HN.out] at hpl
            have hm1 : 1 ≤ m := by have := HMN.out; omega
            obtain ⟨bl, ol, z, hal, hblB, -, cz, -, -, hz, -, -⟩ := hsl.atLeaf (k := 0) (by omega)
            subst hal
            have hz' : ls[(allP (cs.take k) ++ x.papers.take j).length]? = some z := by simpa using hz
            have hzp : z.paper = y := by
              have h1 : (ls.map (·.paper))[(allP (cs.take k) ++ x.papers.take j).length]? = some z.paper := by rw [List.getElem?_map, hz']; rfl
              rw [HLS.out, leavesF_papers, allP_at Hx.out hy] at h1
              injection h1 with h1
              exact h1.symm
            have hnd : (ls.map (·.paper)).Nodup := by rw [HLS.out, leavesF_papers]; exact (chapsF_nodup OK.out.chap).1
            have hloe : loOf ls y = z.lo := by rw [← hzp]; exact loOf_at hnd hz'
            have hlob := loOf_bound OK.out y
            rw [← HLS.out, hloe] at hlob
            obtain ⟨hlo1, hlo2⟩ := hlob
            have htie : titleOf xs y = f.title := by unfold titleOf; rw [hfo]
            have htz : f.title.size ≤ 200 := by rw [← htie]; exact (found_parts OK.out.fin (chapsF_found OK.out.chap y hmem)).1
            have hits := itoa_size z.lo (by omega) (by omega)
            have HFX := Lib.hid hfx
            have HLO := Lib.hid hloe
            have HTI := Lib.hid htie
            have HYT := Lib.hid hytk
            have HPR := Lib.hid hpre
            have czz : wi.cell? ⟨bl, ol + 1, none⟩ = some (.int .i64 z.lo) := by simpa using cz
            clear hfo hfp hfx hpre hpl hz hz' hzp hnd hloe htie hytk hmem hy cz
            have hfi := hf3.keep RFin.ok hkr
            go_wp2_with fail
            refine (final_any af lf cf xs y _ (hfi.mono RFin.ok (fun _ _ => trivial)) hlf HRs.out.1).mono ?_
            rintro e w6 ⟨rfl, hw6⟩
            have hwB := hbld.lt
            have hk6 : Kept (fun k => k < B) wi w6 := Kept.all hw6
            have hfi6 := hfi.keep RFin.ok hk6
            have cx := hw6.cell czz trivial
            obtain ⟨bf, of, f', -, -, haf, hbfB, -, ct, -, -, -, -, -, hf', -, -⟩ := hfi6.atFin (k := cntOf xs y) hcn
            have hff : f' = f := by rw [HFX.out] at hf'; injection hf' with hf'; exact hf'.symm
            subst hff
            subst haf
            have hbld6 := hbld.keep hw6
            have hsl6 := hsl.keep RLeaf.ok hk6
            have hk56 := hk5i.trans hk6
            have HP6 := Lib.hid (HP3.out.kept (hkr.trans hk6) (by omega))
            have hbl : (⟨#[32, 32]⟩ : ByteArray).size = 2 := rfl
            have hnl : (⟨#[10]⟩ : ByteArray).size = 1 := rfl
            obtain ⟨t1, ht1, hz1', g1⟩ := cat_run Tryz.prog ⟨#[32, 32]⟩ f'.title (by omega)
            obtain ⟨t2, ht2, hz2', g2⟩ := cat_run Tryz.prog t1 ⟨#[32, 32]⟩ (by omega)
            obtain ⟨t3, ht3, hz3', g3⟩ := cat_run Tryz.prog t2 ⟨(Lib.itoa z.lo).toArray⟩ (by omega)
            obtain ⟨t4, ht4, hz4', g4⟩ := cat_run Tryz.prog t3 ⟨#[10]⟩ (by omega)
            have HT := Lib.hid (show t4 = lineC f'.title z.lo by rw [ht4, ht3, ht2, ht1]; rfl)
            have ht4z : t4.size ≤ 300 := by omega
            have hm1' : (1 : Int) ≤ (m : Int) := by omega
            have hm0 : (0 : Int) < (m : Int) := by omega
            have hm0n : 0 < m := by omega
            have hcn' : ((cntOf xs y : Nat) : Int) < (lf : Int) := by omega
            have hcn0 : (0 : Int) ≤ ((cntOf xs y : Nat) : Int) := by omega
            clear ht1 ht2 ht3 ht4 hz1' hz2' hz3' hz4' hbl hnl hf' hw6 hbld hsl hk6 hk5i hfi hfi6 czz cy
            go_wp2_with fail
            go_region_held3 (fun w' => w'.cell? ⟨bl, ol + 1, none⟩ = some (.int .i64 z.lo) ∧ w'.cell? ⟨bf, of + cntOf xs y * 4 + 1, none⟩ = some (.string f'.title)) (first | go_keep | exact ⟨by assumption, by assumption⟩) (first
              | (go_at_call 59; refine (itoa_any _ (by omega) (by omega) _ (HP6.out.keep (by repeat (first | exact Kept.refl _ _ | refine Kept.then_drew ?_ | refine Kept.then_drewN ?_ _ | refine Kept.then_alloc ?_ _)))).mono ?_; rintro e q1 ⟨rfl, hq1⟩; have hp1 : All w6 q1 := Kept.trans (by repeat (first | exact Kept.refl _ _ | refine Kept.then_drew ?_ | refine Kept.then_drewN ?_ _ | refine Kept.then_alloc ?_ _)) hq1; have a1 := hp1.cell cx trivial; have a2 := hp1.cell ct trivial)
              | (go_at_call 57; refine (write_any B _ _ _ (hbld6.keep (hp1.trans (by repeat (first | exact Kept.refl _ _ | refine Kept.then_drew ?_ | refine Kept.then_drewN ?_ _ | refine Kept.then_alloc ?_ _)))) (by have := HCP.out; have := HTT.out; omega)).mono ?_; rintro e q2 ⟨rfl, hb2, hkq, -⟩; have hp2 : Kept (fun k => k < B) w6 q2 := (Kept.all (hp1.trans (by repeat (first | exact Kept.refl _ _ | refine Kept.then_drew ?_ | refine Kept.then_drewN ?_ _ | refine Kept.then_alloc ?_ _)))).trans hkq; have b1 := hp2.cell cx hblB; have b2 := hp2.cell ct hbfB))
            all_goals
              go_wp2_with fail
              go_roundw
              case rel => exact ⟨j + 1, by omega, by go_num, _, m - 1, c - 1, rfl, by omega, by rw [HPR.out]; have := HMN.out; omega, by rw [HPR.out, ← List.drop_drop]; exact (hsl6.keep RLeaf.ok hp2).tail (by omega) hmc, by rw [papC_succ HYT.out, HTI.out, HLO.out, ← HT.out, ← List.append_assoc, ← List.append_assoc]; rw [← List.append_assoc] at hb2; exact hb2, hk56.trans hp2⟩
              case measure => simp [intOf]; omega
          · have hdj : decide ((j : Int) < (x.papers.length : Int)) = false := by simp; omega
            have e3 := Lib.hid (show x.papers.take j = x.papers from List.take_of_length_le (by omega))
            go_wp2_with fail
            go_roundw
            case rel => exact ⟨k + 1, by omega, by go_num, a, m, c, rfl, hmc, by rw [allP_succ Hx.out]; have h := HMN.out; rw [e3.out] at h; exact h, by rw [allP_succ Hx.out]; rw [e3.out] at hsl; exact hsl, by rw [chapC_succ (take_succ Hx.out)]; rw [e3.out] at hbld; exact hbld, hkr⟩
            case measure => simp [intOf]; omega
      · have hd : decide ((k : Int) < (lv : Int)) = false := by simp; omega
        have e3 : cs.take k = cs := List.take_of_length_le (by have := Hlen.out; omega)
        rw [e3] at hbld
        have hdl : decide ((200000 : Int) < ((chapC xs ls cs).length : Int)) = false := by have := HTT.out; simp; omega
        clear e3 hsl hmc HMN
        go_wp2_with fail
        refine (len_any B _ _ hbld).mono ?_
        rintro e w' ⟨rfl, rfl⟩
        go_wp2_with fail
        refine (string_any B _ _ hbld).mono ?_
        rintro e w9 ⟨rfl, hk9⟩
        go_wp2_with fail
        go_ret2
        refine ⟨ret_pair ?_ H0.out.symm, ?_⟩
        · rw [contE, if_neg (by simp [H0.out]), ← HLS.out]
        · exact hk3.trans2 (hkr.trans hk9) (fun i hi _ => by omega)
  · obtain ⟨er, her⟩ : ∃ er, er = volF first right cs xs := ⟨_, rfl⟩
    have hne : (er != 0) = true := by rw [her]; simpa using h0
    have H0 := Lib.hid h0
    have HR := Lib.hid her
    go_enter Tryz.func13, Tryz.ntmps13
    go_wp2_with fail
    refine (checkVolume_any first right av lv cv cs af lf cf xs _ (hv.keep RChap.ok hk0) (hf.keep RFin.ok hk0) hlv hlf (HG.out.keep hk0)).mono ?_
    rintro e w2 ⟨rfl, hw2⟩
    have hk2 := hk0.trans hw2
    rw [← her]
    clear her h0
    go_wp2_with fail
    go_ret2
    exact ⟨ret_pair (by rw [contE, if_pos H0.out]) HR.out, hk2⟩
end Go.Proofs.YtiecaedgphdfdaaGreatDoor
