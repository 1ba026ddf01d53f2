/- The law VolumePages, walked. -/
import Derived.Test.YtiecaedgphdfdaaGreatDoorVf
import Derived.Test.YtiecaedgphdfdaaGreatDoorJe
import Derived.Test.YtiecaedgphdfdaaGreatDoorEq
import Derived.Test.YtiecaedgphdfdaaGreatDoorQb
import Derived.Test.YtiecaedgphdfdaaGreatDoorVh
import Derived.Test.YtiecaedgphdfdaaGreatDoorWb
namespace Go.Proofs.YtiecaedgphdfdaaGreatDoor
open Go.RowKit

/-- A paper on a page is no empty string. -/
theorem onPage_size {first : Int} {right : Bool} {cs : List Chap} {xs : List Fin4} {page : Int} {x : Leaf3} (hok : VolOk first right cs xs) (hx : onPage page (lvs first right cs xs) = some x) : 0 < x.paper.size := by
  have h1 : x ∈ lvs first right cs xs := List.mem_of_find?_eq_some hx
  have h2 : x.paper ∈ allP cs := by
    have := leavesF_papers xs right first (allP cs)
    rw [← this]
    exact List.mem_map.2 ⟨x, h1, rfl⟩
  exact (found_parts hok.fin (chapsF_found hok.chap _ h2)).2

set_option maxRecDepth 100000 in
set_option maxHeartbeats 3200000 in
theorem volumePages_walk (a : Option Addr) (len cap : Nat) (w : World) (h : IsRow w a len cap) (hg : Glob w) (hp : Pow w) :
    Calls Tryz.prog 3 #[.slice a len cap] w fun e w' => e = .returned (.bool true) ∧ Below w.heap.size w w' := by
  have hgl := hg.lt
  have hpl := hp.lt
  have hst := h.start
  obtain ⟨σ, hσ⟩ : ∃ σ : St, σ = ⟨w.heap.size, a, len, cap⟩ := ⟨_, rfl⟩
  have hσb : σ.b = w.heap.size := by rw [hσ]
  rw [← hσ] at hst
  have Hσ := Lib.hid hσb
  have hptr : (Value.pointer (some ⟨w.heap.size, 0, none⟩)) = Value.pointer (some ⟨σ.b, 0, none⟩) := by rw [hσb]
  have Hptr := Lib.hid hptr
  have hσ2 : 2 < σ.b := by omega
  have hσ3 : 3 < σ.b := by omega
  have hk0 : Kept (fun k => k ≠ σ.b) w (w.alloc (.cells #[.slice a len cap, .int .i64 0] 25)) := Kept.alloc _ _ _
  have HG := Lib.hid hg
  have HP := Lib.hid hp
  clear hσ hσb hptr h hg hp
  go_enter Tryz.func3, Tryz.ntmps3
  go_wp2_with fail
  simp only [Hptr.out]
  generalize w.alloc (.cells #[.slice a len cap, .int .i64 0] 25) = w0 at *
  refine (finals_any σ 0 _ hst (by omega)).mono ?_
  rintro e w1 ⟨v, n1, rfl, ⟨af, cf, xs, rfl, hxl, hcf, hf⟩, hn1, hn2, hs1, hb1⟩
  have hk1 := hk0.trans hb1
  clear hst hk0 hb1
  go_wp2_with fail
  refine (volume_any σ n1 af xs.length cf xs _ hs1 (by omega) hf (by omega)).mono ?_
  rintro e w2 ⟨v, n2, rfl, ⟨first, right, av, cv, cs, rfl, hcl, hv⟩, hn3, hn4, hs2, hb2⟩
  have hf2 := hf.keep RFin.ok hb2
  have hk2 := hk1.trans hb2
  clear hs1 hk1 hf hb2
  go_wp2_with fail
  have hk4 : Kept (fun k => k ≠ σ.b) w (w2.alloc (.cells #[.int .i64 first, .bool right, .slice av cs.length cv] 30)) := hk2.then_alloc _
  have hs4 := hs2.keep (Kept.alloc (fun _ => True) w2 (.cells #[.int .i64 first, .bool right, .slice av cs.length cv] 30))
  have hf4 := hf2.keep RFin.ok (Kept.alloc _ w2 (.cells #[.int .i64 first, .bool right, .slice av cs.length cv] 30))
  have hv4 := hv.keep RChap.ok (Kept.alloc _ w2 (.cells #[.int .i64 first, .bool right, .slice av cs.length cv] 30))
  have hlt2 := hs2.lt
  have hblk := heap_at w2 (.cells #[.int .i64 first, .bool right, .slice av cs.length cv] 30) _ rfl
  have hvb : w2.heap.size ≠ σ.b := by omega
  obtain ⟨vb, hvbe⟩ : ∃ vb, vb = w2.heap.size := ⟨_, rfl⟩
  rw [← hvbe] at hblk hvb ⊢
  clear hvbe hs2 hf2 hv hk2
  generalize w2.alloc (.cells #[.int .i64 first, .bool right, .slice av cs.length cv] 30) = w4a at *
  refine (range_any σ n2 0 120 _ hs4 (by omega) (by omega) (by omega) (by omega)).mono ?_
  rintro e w3 ⟨v, n3, rfl, ⟨r3, rfl, hr1, hr2⟩, hn5, hn6, hs3, hb3⟩
  have hlt3 := hs3.lt
  have hk3 := hk4.trans hb3
  have hf3 := hf4.keep RFin.ok hb3
  have hv3 := hv4.keep RChap.ok hb3
  have hblk3 := hb3.heap hblk hvb
  clear hs4 hf4 hv4 hblk hk4 hb3
  go_wp2_with fail
  refine (pick_any σ n3 _ _ _ [1, 2, 3, 7, 8, 10, 11, 12, 20, 0, -5, 6000, r3] _ (hs3.keep (Kept.alloc _ _ _)) (by omega) (Sl.lit_ints _ (heap_at _ _ _ (by first | rfl | simp)) rfl (by omega)) (by simp) (by simp)).mono ?_
  rintro e w4 ⟨v, n4, rfl, ⟨page, rfl, -⟩, -, -, hs5, hb5⟩
  have hb5' := (Kept.alloc (fun k => k ≠ σ.b) w3 (.cells #[.int .i64 1, .int .i64 2, .int .i64 3, .int .i64 7, .int .i64 8, .int .i64 10, .int .i64 11, .int .i64 12, .int .i64 20, .int .i64 0, .int .i64 (-5), .int .i64 6000, .int .i64 r3] 3)).trans hb5
  have hk4 := hk3.trans hb5'
  have hf4 := (hf3.keep RFin.ok hb5').mono RFin.ok (G := fun _ => True) (fun _ _ => trivial)
  have hv4 := (hv3.keep RChap.ok hb5').mono RChap.ok (G := fun _ => True) (fun _ _ => trivial)
  have hblk4 := hb5'.heap hblk3 hvb
  have v0 := cell_at (i := 0) hblk4 rfl
  have v1 := cell_at (i := 1) hblk4 rfl
  have v2 := cell_at (i := 2) hblk4 rfl
  have HG4 := Lib.hid (HG.out.but hk4 hσ2)
  have HP4 := Lib.hid (HP.out.kept hk4 (by omega))
  have Hend := Lib.hid (show ∀ wx, All w4 wx → Below w.heap.size w wx from fun wx hw => (hk4.trans (Kept.all hw)).below (Nat.le_refl _) (fun k hk => by have := Hσ.out; omega))
  clear hs3 hf3 hv3 hblk3 hblk4 hk3 hb5 hb5' hs5 hk4 HG HP
  go_wp2_with fail
  refine (pages_any first right av cs.length cv cs af xs.length cf xs _ hv4 hf4 (by omega) (by omega) HG4.out).mono ?_
  rintro e q1 ⟨aa, ca, na, rfl, hna, hnb, hq1⟩
  have hp1 : All w4 q1 := hq1
  have a10 := hp1.cell v0 trivial
  have a11 := hp1.cell v1 trivial
  have a12 := hp1.cell v2 trivial
  have HNA := Lib.hid hna
  have HNB := Lib.hid hnb
  clear hna hnb hq1
  go_wp2_with fail
  refine (at_any first right av cs.length cv cs af xs.length cf xs page _ (hv4.keep RChap.ok hp1) (hf4.keep RFin.ok hp1) (by omega) (by omega) (HG4.out.keep hp1)).mono ?_
  rintro e q2 ⟨rfl, hq2⟩
  have hp2 : All w4 q2 := hp1.trans hq2
  have a20 := hp2.cell v0 trivial
  have a21 := hp2.cell v1 trivial
  have a22 := hp2.cell v2 trivial
  clear a10 a11 a12
  go_wp2_with fail
  refine (contents_any first right av cs.length cv cs af xs.length cf xs _ (hv4.keep RChap.ok hp2) (hf4.keep RFin.ok hp2) (by omega) (by omega) (HG4.out.keep hp2) (HP4.out.keep hp2)).mono ?_
  rintro e q3 ⟨rfl, hq3⟩
  have hp3 : All w4 q3 := hp2.trans hq3
  have a30 := hp3.cell v0 trivial
  have a31 := hp3.cell v1 trivial
  have a32 := hp3.cell v2 trivial
  clear a20 a21 a22
  go_wp2_with fail
  refine (volumeFault_any first right av cs.length cv cs af xs.length cf xs _ (hv4.keep RChap.ok hp3) (hf4.keep RFin.ok hp3) (by omega) (by omega) (HG4.out.keep hp3)).mono ?_
  rintro e q4 ⟨rfl, hq4⟩
  have hp4 : All w4 q4 := hp3.trans hq4
  have a40 := hp4.cell v0 trivial
  have a41 := hp4.cell v1 trivial
  have a42 := hp4.cell v2 trivial
  clear a30 a31 a32
  by_cases h0 : volF first right cs xs = 0
  · have H0 := Lib.hid h0
    have OK := Lib.hid (VolOk.of h0)
    have hcont : contE first right cs xs = ⟨(chapC xs (lvs first right cs xs) cs).toArray⟩ := by rw [contE, if_neg (by simp [h0])]
    rw [h0] at HNA HNB ⊢
    rw [hcont]
    obtain ⟨ct, hct⟩ : ∃ ct : ByteArray, ct = ⟨(chapC xs (lvs first right cs xs) cs).toArray⟩ := ⟨_, rfl⟩
    have hcq := hct.symm
    rw [hcq]
    have hcc : (ct.toList == ct.toList) = true := by simp
    have HCQ := Lib.hid hcq
    clear hct hcont hcq
    cases hon : onPage page (lvs first right cs xs) with
    | some x =>
      have hat := atS_some h0 hon
      have hae := atE_some h0 hon
      have hop : onPageS page (lvs first right cs xs) = x.paper := by rw [onPageS, hon]
      have hxs := onPage_size OK.out hon
      have hxe : (x.paper.toList == []) = false := by rw [beq_eq_false_iff_ne]; exact toList_ne (by omega)
      have hxx : (x.paper.toList == x.paper.toList) = true := by simp
      rw [hat, hae]
      have HOP := Lib.hid hop
      clear hat hae hop hon h0
      go_wp2_with fail
      refine (paperOn_any first right av cs.length cv cs af xs.length cf xs page _ (hv4.keep RChap.ok hp4) (hf4.keep RFin.ok hp4) (by omega) OK.out).mono ?_
      rintro e q5 ⟨rfl, hq5⟩
      have hp5 : All w4 q5 := hp4.trans hq5
      have HP45 : All q1 q5 := ((hq2.trans hq3).trans hq4).trans hq5
      have a50 := hp5.cell v0 trivial
      have a51 := hp5.cell v1 trivial
      have a52 := hp5.cell v2 trivial
      rw [HOP.out]
      go_wp2_with fail
      refine (whenV_any _ _ _).mono ?_
      rintro e w' ⟨rfl, rfl⟩
      skip
      go_wp2_with fail
      refine (pagesOf_any first right av cs.length cv cs af xs.length cf xs _ (hv4.keep RChap.ok hp5) (hf4.keep RFin.ok hp5) (by have := OK.out.len; omega) (by omega) (finalsF_rises OK.out.fin).2 (chapsF_found OK.out.chap) OK.out.lo OK.out.hi).mono ?_
      rintro e q6 ⟨v6, rfl, hacc, hq6⟩
      obtain ⟨a6, c6, rfl, hsl6⟩ := hacc.sl RLeaf.ok (by decide) (G := fun _ => True) (fun _ h => h.elim) (fun _ _ => trivial)
      have hp6 : All w4 q6 := hp5.trans hq6
      have a60 := hp6.cell v0 trivial
      have a61 := hp6.cell v1 trivial
      have a62 := hp6.cell v2 trivial
      obtain ⟨ls, hls⟩ : ∃ ls, ls = leavesF xs right first (allP cs) := ⟨_, rfl⟩
      have HLS := Lib.hid hls
      have hnn := HNB.out (by first | trivial | rfl)
      rw [lvs, ← hls] at hnn
      rw [← hls] at hsl6 ⊢
      obtain ⟨hnn1, hnn2⟩ := hnn
      have hls40 : ls.length ≤ 40000 := by rw [hls, leavesF_length]; exact hv4.allP_le (by have := OK.out.len; omega)
      have hsa := hnn2.keep RLeaf.ok (HP45.trans hq6)
      rw [← hnn1] at hsl6 ⊢
      have hna40 : na ≤ 40000 := by omega
      clear hacc hls hnn1 hnn2
      go_wp2_with fail
      refine (equalLeaf_same aa na ca a6 na c6 ls _ hsa hsl6 (by omega)).mono ?_
      rintro e q7 ⟨rfl, hq7⟩
      have hp7 : All w4 q7 := hp6.trans hq7
      have a70 := hp7.cell v0 trivial
      have a71 := hp7.cell v1 trivial
      have a72 := hp7.cell v2 trivial
      go_wp2_with fail
      refine (contentsOf_any first right av cs.length cv cs af xs.length cf xs _ (hv4.keep RChap.ok hp7) (hf4.keep RFin.ok hp7) (by omega) OK.out (HP4.out.keep hp7)).mono ?_
      rintro e q8 ⟨rfl, hq8⟩
      have hp8 : All w4 q8 := hp7.trans hq8
      rw [HCQ.out]
      go_wp2_with fail
      refine (printed_any _).mono ?_
      rintro e w' ⟨rfl, rfl⟩
      go_wp2_with fail
      go_ret
      exact ⟨rfl, Hend.out _ hp8⟩
    | none =>
      have hat := atS_none h0 hon
      have hae := atE_none h0 hon
      have hop : onPageS page (lvs first right cs xs) = ⟨#[]⟩ := by rw [onPageS, hon]
      rw [hat, hae]
      have HOP := Lib.hid hop
      clear hat hae hop hon h0
      go_wp2_with fail
      refine (paperOn_any first right av cs.length cv cs af xs.length cf xs page _ (hv4.keep RChap.ok hp4) (hf4.keep RFin.ok hp4) (by omega) OK.out).mono ?_
      rintro e q5 ⟨rfl, hq5⟩
      have hp5 : All w4 q5 := hp4.trans hq5
      have HP45 : All q1 q5 := ((hq2.trans hq3).trans hq4).trans hq5
      have a50 := hp5.cell v0 trivial
      have a51 := hp5.cell v1 trivial
      have a52 := hp5.cell v2 trivial
      rw [HOP.out]
      go_wp2_with fail
      refine (whenV_any _ _ _).mono ?_
      rintro e w' ⟨rfl, rfl⟩
      skip
      go_wp2_with fail
      refine (pagesOf_any first right av cs.length cv cs af xs.length cf xs _ (hv4.keep RChap.ok hp5) (hf4.keep RFin.ok hp5) (by have := OK.out.len; omega) (by omega) (finalsF_rises OK.out.fin).2 (chapsF_found OK.out.chap) OK.out.lo OK.out.hi).mono ?_
      rintro e q6 ⟨v6, rfl, hacc, hq6⟩
      obtain ⟨a6, c6, rfl, hsl6⟩ := hacc.sl RLeaf.ok (by decide) (G := fun _ => True) (fun _ h => h.elim) (fun _ _ => trivial)
      have hp6 : All w4 q6 := hp5.trans hq6
      have a60 := hp6.cell v0 trivial
      have a61 := hp6.cell v1 trivial
      have a62 := hp6.cell v2 trivial
      obtain ⟨ls, hls⟩ : ∃ ls, ls = leavesF xs right first (allP cs) := ⟨_, rfl⟩
      have HLS := Lib.hid hls
      have hnn := HNB.out (by first | trivial | rfl)
      rw [lvs, ← hls] at hnn
      rw [← hls] at hsl6 ⊢
      obtain ⟨hnn1, hnn2⟩ := hnn
      have hls40 : ls.length ≤ 40000 := by rw [hls, leavesF_length]; exact hv4.allP_le (by have := OK.out.len; omega)
      have hsa := hnn2.keep RLeaf.ok (HP45.trans hq6)
      rw [← hnn1] at hsl6 ⊢
      have hna40 : na ≤ 40000 := by omega
      clear hacc hls hnn1 hnn2
      go_wp2_with fail
      refine (equalLeaf_same aa na ca a6 na c6 ls _ hsa hsl6 (by omega)).mono ?_
      rintro e q7 ⟨rfl, hq7⟩
      have hp7 : All w4 q7 := hp6.trans hq7
      have a70 := hp7.cell v0 trivial
      have a71 := hp7.cell v1 trivial
      have a72 := hp7.cell v2 trivial
      go_wp2_with fail
      refine (contentsOf_any first right av cs.length cv cs af xs.length cf xs _ (hv4.keep RChap.ok hp7) (hf4.keep RFin.ok hp7) (by omega) OK.out (HP4.out.keep hp7)).mono ?_
      rintro e q8 ⟨rfl, hq8⟩
      have hp8 : All w4 q8 := hp7.trans hq8
      rw [HCQ.out]
      go_wp2_with fail
      refine (printed_any _).mono ?_
      rintro e w' ⟨rfl, rfl⟩
      go_wp2_with fail
      go_ret
      exact ⟨rfl, Hend.out _ hp8⟩
  · obtain ⟨er, her⟩ : ∃ er, er = volF first right cs xs := ⟨_, rfl⟩
    have hcont : contE first right cs xs = ⟨#[]⟩ := by rw [contE, if_pos h0]
    have hat := atS_bad (page := page) h0
    have hae := atE_bad (page := page) h0
    have hna0 := HNA.out h0
    subst hna0
    rw [hcont, hat, hae, ← her]
    have hne : (er != 0) = true := by rw [her]; simpa using h0
    have hne2 : (er == 0) = false := by rw [her]; simpa using h0
    clear hcont hat hae her h0 HNA HNB
    go_wp2_with fail
    refine (printed_any _).mono ?_
    rintro e w' ⟨rfl, rfl⟩
    go_wp2_with fail
    go_ret
    exact ⟨rfl, Hend.out _ hp4⟩
end Go.Proofs.YtiecaedgphdfdaaGreatDoor
