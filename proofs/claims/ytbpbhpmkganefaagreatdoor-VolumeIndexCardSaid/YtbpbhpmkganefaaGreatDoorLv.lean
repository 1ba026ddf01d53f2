/- The law VolumeIndex, walked. -/
import Derived.Test.YtbpbhpmkganefaaGreatDoorVf
import Derived.Test.YtbpbhpmkganefaaGreatDoorYj
import Derived.Test.YtbpbhpmkganefaaGreatDoorYl
import Derived.Test.YtbpbhpmkganefaaGreatDoorYm
import Derived.Test.YtbpbhpmkganefaaGreatDoorYo
import Derived.Test.YtbpbhpmkganefaaGreatDoorYr
import Derived.Test.YtbpbhpmkganefaaGreatDoorGe
import Derived.Test.YtbpbhpmkganefaaGreatDoorVh
import Derived.Test.YtbpbhpmkganefaaGreatDoorWg
namespace Go.Proofs.YtbpbhpmkganefaaGreatDoor
open Go.RowKit

theorem five_at {w : World} {b : Nat} (h : w.heap[b]? = some (.cells #[.string ⟨#[112, 97]⟩, .string ⟨#[112, 98]⟩, .string ⟨#[112, 99]⟩, .string ⟨#[112, 100]⟩, .string ⟨#[110, 111, 110, 101]⟩] 9 (0, 0))) (k : Nat) (hk : k < 5) : ∃ p : ByteArray, w.cell? ⟨b, k, none⟩ = some (.string p) := by
  have hz : k = 0 ∨ k = 1 ∨ k = 2 ∨ k = 3 ∨ k = 4 := by omega
  rcases hz with rfl | rfl | rfl | rfl | rfl
  · exact ⟨_, cell_at h rfl⟩
  · exact ⟨_, cell_at h rfl⟩
  · exact ⟨_, cell_at h rfl⟩
  · exact ⟨_, cell_at h rfl⟩
  · exact ⟨_, cell_at h rfl⟩

theorem spaceLt {w : World} (h : GlobS w) : 4 < w.heap.size := by
  have ht := h.t
  unfold Lib.TabIs World.var? at ht
  rw [space_named] at ht
  simp only [Option.bind_some] at ht
  rcases Nat.lt_or_ge 4 w.heap.size with h' | h'
  · exact h'
  · rw [Array.getElem?_eq_none (by omega)] at ht; cases ht
set_option maxRecDepth 100000 in
set_option maxHeartbeats 6400000 in
theorem volumeIndex_walk (a : Option Addr) (len cap : Nat) (w : World) (h : IsRow w a len cap) (hg : GlobS w) (hp : Pow w) :
    Calls Tryz.prog 3 #[.slice a len cap] w fun e w' => e = .returned (.bool true) ∧ Below w.heap.size w w' := by
  have hgl := hg.g.lt
  have hpl := hp.lt
  have hsl := spaceLt hg
  have hst := h.start
  obtain ⟨σ, hσ⟩ : ∃ σ : St, σ = ⟨w.heap.size, a, len, cap⟩ := ⟨_, rfl⟩
  have hσb : σ.b = w.heap.size := by rw [hσ]
  rw [← hσ] at hst
  have Hσ := Lib.hid hσb
  have hptr : (Value.pointer (some ⟨w.heap.size, 0, none⟩)) = Value.pointer (some ⟨σ.b, 0, none⟩) := by rw [hσb]
  have Hptr := Lib.hid hptr
  have hσ2 : 2 < σ.b := by omega
  have hσ3 : 3 < σ.b := by omega
  have hσ4 : 4 < σ.b := by omega
  have hk0 : Kept (fun k => k ≠ σ.b) w (w.alloc (.cells #[.slice a len cap, .int .i64 0] 25)) := Kept.alloc _ _ _
  have HG := Lib.hid hg
  have HP := Lib.hid hp
  clear hσ hσb hptr h hg hp hgl hpl hsl
  go_enter Tryz.func3, Tryz.ntmps3
  go_wp2_with fail
  simp only [Hptr.out]
  generalize w.alloc (.cells #[.slice a len cap, .int .i64 0] 25) = w0 at *
  refine (finals_any σ 0 _ hst (by omega)).mono ?_
  rintro e w1 ⟨v, n1, rfl, ⟨af, cf, xs, rfl, hxl, hcf, hf⟩, hn1, hn2, hs1, hb1⟩
  have hk1 := hk0.trans hb1
  clear hst hk0 hb1
  go_wp2_with fail
  refine (volume_any σ n1 af xs.length cf xs _ hs1 (by omega) hf (by omega)).mono ?_
  rintro e w2 ⟨v, n2, rfl, ⟨first, right, av, cv, cs, rfl, hcl, hv⟩, hn3, hn4, hs2, hb2⟩
  have hf2 := hf.keep RFin.ok hb2
  have hk2 := hk1.trans hb2
  clear hs1 hk1 hf hb2
  have hka : Kept (fun k => k ≠ σ.b) w2 ((w2.alloc (.cells #[.int .i64 first, .bool right, .slice av cs.length cv] 30)).alloc (.cells #[.string ⟨#[112, 97]⟩, .string ⟨#[112, 98]⟩, .string ⟨#[112, 99]⟩, .string ⟨#[112, 100]⟩, .string ⟨#[110, 111, 110, 101]⟩] 9)) := (Kept.alloc _ _ _).then_alloc _
  have hkall : All w2 ((w2.alloc (.cells #[.int .i64 first, .bool right, .slice av cs.length cv] 30)).alloc (.cells #[.string ⟨#[112, 97]⟩, .string ⟨#[112, 98]⟩, .string ⟨#[112, 99]⟩, .string ⟨#[112, 100]⟩, .string ⟨#[110, 111, 110, 101]⟩] 9)) := (Kept.alloc _ _ _).then_alloc _
  have hk4 := hk2.trans hka
  have hs4 := hs2.keep hkall
  have hf4 := hf2.keep RFin.ok hka
  have hv4 := hv.keep RChap.ok hka
  have hlt2 := hs2.lt
  have hblk := (Kept.alloc (fun _ => True) (w2.alloc (.cells #[.int .i64 first, .bool right, .slice av cs.length cv] 30)) (.cells #[.string ⟨#[112, 97]⟩, .string ⟨#[112, 98]⟩, .string ⟨#[112, 99]⟩, .string ⟨#[112, 100]⟩, .string ⟨#[110, 111, 110, 101]⟩] 9)).heap (heap_at w2 (.cells #[.int .i64 first, .bool right, .slice av cs.length cv] 30) _ rfl) trivial
  have hfive := heap_at (w2.alloc (.cells #[.int .i64 first, .bool right, .slice av cs.length cv] 30)) (.cells #[.string ⟨#[112, 97]⟩, .string ⟨#[112, 98]⟩, .string ⟨#[112, 99]⟩, .string ⟨#[112, 100]⟩, .string ⟨#[110, 111, 110, 101]⟩] 9) _ rfl
  obtain ⟨vb, hvbe⟩ : ∃ vb, vb = w2.heap.size := ⟨_, rfl⟩
  obtain ⟨fb, hfbe⟩ : ∃ fb, fb = (w2.alloc (.cells #[.int .i64 first, .bool right, .slice av cs.length cv] 30)).heap.size := ⟨_, rfl⟩
  have HVB := Lib.hid hvbe
  have HFB := Lib.hid (show fb = vb + 1 by rw [hfbe, hvbe]; simp)
  have hvb : vb ≠ σ.b := by omega
  have hfb : fb ≠ σ.b := by have := HFB.out; omega
  rw [← hvbe] at hblk
  rw [← hfbe] at hfive
  clear hvbe hfbe hs2 hf2 hv hk2 hka hkall hlt2
  go_wp2_with fail
  simp only [← HVB.out]
  simp only [← HFB.out]
  generalize (w2.alloc (.cells #[.int .i64 first, .bool right, .slice av cs.length cv] 30)).alloc (.cells #[.string ⟨#[112, 97]⟩, .string ⟨#[112, 98]⟩, .string ⟨#[112, 99]⟩, .string ⟨#[112, 100]⟩, .string ⟨#[110, 111, 110, 101]⟩] 9) = w4a at *
  refine (next_any σ n2 5 _ hs4 (by omega) (by omega) (by omega)).mono ?_
  rintro e w3 ⟨v, n3, rfl, ⟨r3, rfl, hr1, hr2⟩, hn5, hn6, hs3, hb3⟩
  have hk3 := hk4.trans hb3
  have hf3 := (hf4.keep RFin.ok hb3).mono RFin.ok (G := fun _ => True) (fun _ _ => trivial)
  have hv3 := (hv4.keep RChap.ok hb3).mono RChap.ok (G := fun _ => True) (fun _ _ => trivial)
  have hblk3 := hb3.heap hblk hvb
  have hfive3 := hb3.heap hfive hfb
  obtain ⟨r, rfl⟩ : ∃ r : Nat, r3 = (r : Int) := ⟨r3.toNat, by omega⟩
  obtain ⟨p, hpc⟩ := five_at hfive3 r (by omega)
  have k1 : (0 : Int) ≤ (r : Int) := by omega
  have k2 : (r : Int) < 5 := by omega
  have v0 := cell_at (i := 0) hblk3 rfl
  have v1 := cell_at (i := 1) hblk3 rfl
  have v2 := cell_at (i := 2) hblk3 rfl
  have hGlob3 : Glob w3 := HG.out.g.but hk3 hσ2
  have HG4 := Lib.hid (HG.out.kept hk3 hGlob3 (by omega))
  have HP4 := Lib.hid (HP.out.kept hk3 (by omega))
  have Hend := Lib.hid (show ∀ wx, All w3 wx → Below w.heap.size w wx from fun wx hw => (hk3.trans (Kept.all hw)).below (Nat.le_refl _) (fun k hk => by have := Hσ.out; omega))
  clear hs4 hf4 hv4 hblk hfive hk4 hb3 hblk3 hfive3 hk3 HG HP hGlob3 hs3
  go_wp2_with fail
  refine (volIndex_any first right av cs.length cv cs af xs.length cf xs _ hv3 hf3 (by omega) (by omega) HG4.out.g).mono ?_
  rintro e q1 ⟨hx1, hx2, hq1⟩
  have HX1 := Lib.hid hx1
  have HX2 := Lib.hid hx2
  have hp1 : All w3 q1 := hq1
  have a10 := hp1.cell v0 trivial
  have a11 := hp1.cell v1 trivial
  have a12 := hp1.cell v2 trivial
  clear hx1 hx2 hq1 k1 k2 hpc
  by_cases h0 : volF first right cs xs = 0
  · have H0 := Lib.hid h0
    have OK := Lib.hid (VolOk.of h0)
    obtain ⟨ip, ic, out, he, hio⟩ := HX2.out h0
    subst he
    obtain ⟨es, hes⟩ : ∃ es, es = ents xs (lvs first right cs xs) := ⟨_, rfl⟩
    have HES := Lib.hid hes
    have hel : es.length ≤ 1000000 := by
      rw [hes]
      have h1 := ents_len OK.out.fin (lvs first right cs xs)
      have h2 := lvs_len OK.out
      omega
    rw [← hes] at hio
    have HIO := Lib.hid hio
    clear hes hio HX1 HX2
    go_wp2_with fail
    refine (cite_any first right av cs.length cv cs af xs.length cf xs p _ (hv3.keep RChap.ok hp1) (hf3.keep RFin.ok hp1) (by omega) (by omega) (HG4.out.g.keep hp1) (HP4.out.keep hp1)).mono ?_
    rintro e q2 ⟨rfl, hq2⟩
    have hp2 : All w3 q2 := hp1.trans hq2
    have a20 := hp2.cell v0 trivial
    have a21 := hp2.cell v1 trivial
    have a22 := hp2.cell v2 trivial
    clear a10 a11 a12
    rw [citeS_ok h0]
    cases hlo : leafOf (lvs first right cs xs) p with
    | some x =>
      rw [citeE_some h0 hlo]
      obtain ⟨ct, hct⟩ : ∃ c, c = citeR first right cs xs p := ⟨_, rfl⟩
      have HCT := Lib.hid hct
      rw [← hct]
      have hcc : (ct.toList != ct.toList) = false := by simp
      have HLO := Lib.hid hlo
      clear hct hlo
      go_wp2_with fail
      refine (volumeFault_any first right av cs.length cv cs af xs.length cf xs _ (hv3.keep RChap.ok hp2) (hf3.keep RFin.ok hp2) (by omega) (by omega) (HG4.out.g.keep hp2)).mono ?_
      rintro e q3 ⟨rfl, hq3⟩
      have hp3 : All w3 q3 := hp2.trans hq3
      have a30 := hp3.cell v0 trivial
      have a31 := hp3.cell v1 trivial
      have a32 := hp3.cell v2 trivial
      rw [h0]
      clear a20 a21 a22 h0
      go_wp2_with fail
      refine (leafOf_any first right av cs.length cv cs af xs.length cf xs p _ (hv3.keep RChap.ok hp3) (hf3.keep RFin.ok hp3) (by omega) OK.out).mono ?_
      rintro e q4 ⟨hl1, -, hq4⟩
      have he := hl1 x HLO.out
      subst he
      have hp4 : All w3 q4 := hp3.trans hq4
      have hp5 : All w3 (q4.alloc (.cells #[.string x.paper, .int .i64 x.lo, .int .i64 x.hi] 42)) := hp4.then_alloc _
      have a50 := hp5.cell v0 trivial
      have a51 := hp5.cell v1 trivial
      have a52 := hp5.cell v2 trivial
      clear hl1 a30 a31 a32
      have h45 : All q4 (q4.alloc (.cells #[.string x.paper, .int .i64 x.lo, .int .i64 x.hi] 42)) := Kept.alloc _ _ _
      go_upto_region 11 with fail
      generalize q4.alloc (.cells #[.string x.paper, .int .i64 x.lo, .int .i64 x.hi] 42) = q5 at *
      go_wp2_with fail
      refine (citeOf_any first right av cs.length cv cs af xs.length cf xs p _ (hv3.keep RChap.ok hp5) (hf3.keep RFin.ok hp5) (by omega) OK.out x HLO.out (HG4.out.keep hp5) (HP4.out.keep hp5)).mono ?_
      rintro e q6 ⟨rfl, hq6⟩
      have hp6 : All w3 q6 := hp5.trans hq6
      rw [← HCT.out]
      have a60 := hp6.cell v0 trivial
      have a61 := hp6.cell v1 trivial
      have a62 := hp6.cell v2 trivial
      try clear a50 a51 a52
      go_wp2_with fail
      refine (indexOf_any first right av cs.length cv cs af xs.length cf xs _ (hv3.keep RChap.ok hp6) (hf3.keep RFin.ok hp6) (by omega) OK.out (HG4.out.keep hp6)).mono ?_
      rintro e q7 ⟨jp, jc, out2, rfl, hjo, hq7⟩
      rw [← HES.out] at hjo
      have hp7 : All w3 q7 := hp6.trans hq7
      have hi7 : All q1 q7 := by exact ((((hq2.trans hq3).trans hq4).trans h45).trans hq6).trans hq7
      have HEQ := Lib.hid (equalIdx_true es hel ip ic out jp jc out2 q7 (HIO.out.keep hi7) hjo)
      clear hjo a60 a61 a62
      go_wp2_with fail
      refine HEQ.out.mono ?_
      rintro e q8 ⟨rfl, hq8⟩
      have hp8 : All w3 q8 := hp7.trans hq8
      go_wp2_with fail
      refine (printed_any _).mono ?_
      rintro e w' ⟨rfl, rfl⟩
      go_wp2_with fail
      go_ret
      exact ⟨rfl, Hend.out _ hp8⟩
    | none =>
      rw [citeE_none h0 hlo, citeR_none hlo]
      have hcc : (([] : List UInt8) != []) = false := rfl
      have HLO := Lib.hid hlo
      clear hlo
      go_wp2_with fail
      refine (volumeFault_any first right av cs.length cv cs af xs.length cf xs _ (hv3.keep RChap.ok hp2) (hf3.keep RFin.ok hp2) (by omega) (by omega) (HG4.out.g.keep hp2)).mono ?_
      rintro e q3 ⟨rfl, hq3⟩
      have hp3 : All w3 q3 := hp2.trans hq3
      have a30 := hp3.cell v0 trivial
      have a31 := hp3.cell v1 trivial
      have a32 := hp3.cell v2 trivial
      rw [h0]
      clear a20 a21 a22 h0
      go_wp2_with fail
      refine (leafOf_any first right av cs.length cv cs af xs.length cf xs p _ (hv3.keep RChap.ok hp3) (hf3.keep RFin.ok hp3) (by omega) OK.out).mono ?_
      rintro e q4 ⟨-, hl1, hq4⟩
      have he := hl1 HLO.out
      subst he
      have hp4 : All w3 q4 := hp3.trans hq4
      have hp6 : All w3 (q4.alloc (.cells #[.string ⟨#[]⟩, .int .i64 0, .int .i64 0] 42)) := hp4.then_alloc _
      clear hl1 a30 a31 a32
      have h45 : All q4 (q4.alloc (.cells #[.string ⟨#[]⟩, .int .i64 0, .int .i64 0] 42)) := Kept.alloc _ _ _
      go_upto_region 11 with fail
      generalize q4.alloc (.cells #[.string ⟨#[]⟩, .int .i64 0, .int .i64 0] 42) = q6 at *
      have hq6 : All q6 q6 := Kept.refl _ _
      have a60 := hp6.cell v0 trivial
      have a61 := hp6.cell v1 trivial
      have a62 := hp6.cell v2 trivial
      try clear a50 a51 a52
      go_wp2_with fail
      refine (indexOf_any first right av cs.length cv cs af xs.length cf xs _ (hv3.keep RChap.ok hp6) (hf3.keep RFin.ok hp6) (by omega) OK.out (HG4.out.keep hp6)).mono ?_
      rintro e q7 ⟨jp, jc, out2, rfl, hjo, hq7⟩
      rw [← HES.out] at hjo
      have hp7 : All w3 q7 := hp6.trans hq7
      have hi7 : All q1 q7 := by exact (((hq2.trans hq3).trans hq4).trans h45).trans hq7
      have HEQ := Lib.hid (equalIdx_true es hel ip ic out jp jc out2 q7 (HIO.out.keep hi7) hjo)
      clear hjo a60 a61 a62
      go_wp2_with fail
      refine HEQ.out.mono ?_
      rintro e q8 ⟨rfl, hq8⟩
      have hp8 : All w3 q8 := hp7.trans hq8
      go_wp2_with fail
      refine (printed_any _).mono ?_
      rintro e w' ⟨rfl, rfl⟩
      go_wp2_with fail
      go_ret
      exact ⟨rfl, Hend.out _ hp8⟩
  · obtain ⟨er, her⟩ : ∃ er, er = volF first right cs xs := ⟨_, rfl⟩
    have he := HX1.out h0
    subst he
    have h1 := citeS_bad (p := p) h0
    have h2 := citeE_bad (p := p) h0
    rw [← her] at h2
    rw [← her]
    have HER := Lib.hid her
    have H0 := Lib.hid h0
    have hne : (er != 0) = true := by rw [her]; simpa using h0
    have hne2 : (er == 0) = false := by rw [her]; simpa using h0
    have hne3 : (er != er) = false := by simp
    have hcc : (([] : List UInt8) != []) = false := rfl
    clear HX1 HX2 her h0
    go_wp2_with fail
    refine (cite_any first right av cs.length cv cs af xs.length cf xs p _ (hv3.keep RChap.ok hp1) (hf3.keep RFin.ok hp1) (by omega) (by omega) (HG4.out.g.keep hp1) (HP4.out.keep hp1)).mono ?_
    rintro e q2 ⟨rfl, hq2⟩
    have hp2 : All w3 q2 := hp1.trans hq2
    have a20 := hp2.cell v0 trivial
    have a21 := hp2.cell v1 trivial
    have a22 := hp2.cell v2 trivial
    rw [h1, h2]
    clear a10 a11 a12 h1 h2
    go_wp2_with fail
    refine (volumeFault_any first right av cs.length cv cs af xs.length cf xs _ (hv3.keep RChap.ok hp2) (hf3.keep RFin.ok hp2) (by omega) (by omega) (HG4.out.g.keep hp2)).mono ?_
    rintro e q3 ⟨rfl, hq3⟩
    have hp3 : All w3 q3 := hp2.trans hq3
    rw [← HER.out]
    go_wp2_with fail
    refine (printed_any _).mono ?_
    rintro e w' ⟨rfl, rfl⟩
    go_wp2_with fail
    go_ret
    exact ⟨rfl, Hend.out _ hp3⟩
end Go.Proofs.YtbpbhpmkganefaaGreatDoor
