/- The law RepliesCounted, walked. -/
import Derived.Test.YtllkemadaemjeaaGreatDoorIe
import Derived.Test.YtllkemadaemjeaaGreatDoorIf
import Derived.Test.YtllkemadaemjeaaGreatDoorIg
import Derived.Test.YtllkemadaemjeaaGreatDoorRk
import Derived.Test.YtllkemadaemjeaaGreatDoorWb
import Derived.Test.YtllkemadaemjeaaGreatDoorWe
namespace Go.Proofs.YtllkemadaemjeaaGreatDoor
open Go.RowKit

theorem firstV_replies (r : RR) (xs : List Rep3) : firstV [rrF r, repsF xs] = cntE r xs := by
  unfold cntE firstV firstV firstV
  split
  · rfl
  · split
    · rfl
    · rename_i h; omega

set_option maxRecDepth 100000 in
set_option maxHeartbeats 6400000 in
theorem repliesCounted_walk (a : Option Addr) (len cap : Nat) (w : World) (h : IsRow w a len cap) (hT : Tabs w) :
    Calls Tryz.prog 5 #[.slice a len cap] w fun e w' => e = .returned (.bool true) ∧ Below w.heap.size w w' := by
  have hst := h.start
  obtain ⟨σ, hσ⟩ : ∃ σ : St, σ = ⟨w.heap.size, a, len, cap⟩ := ⟨_, rfl⟩
  have hσb : σ.b = w.heap.size := by rw [hσ]
  rw [← hσ] at hst
  have Hσ := Lib.hid hσb
  have hptr : (Value.pointer (some ⟨w.heap.size, 0, none⟩)) = Value.pointer (some ⟨σ.b, 0, none⟩) := by rw [hσb]
  have Hptr := Lib.hid hptr
  have hk0 : Kept (fun k => k ≠ σ.b) w (w.alloc (.cells #[.slice a len cap, .int .i64 0] 25)) := Kept.alloc _ _ _
  have HTAB := Lib.hid (fun (wx : World) (k : Kept (fun k => k ≠ σ.b) w wx) => hT.kept k (by have := hT.lt; omega) (by have := hT.lt; omega))
  clear hσ hσb hptr h hT
  go_enter Tryz.func5, Tryz.ntmps5
  go_wp2_with fail
  simp only [Hptr.out]
  generalize w.alloc (.cells #[.slice a len cap, .int .i64 0] 25) = w0 at *
  have hlt0 := hst.lt
  refine (replyRules_any σ 0 _ hst (by omega)).mono ?_
  rintro e w1 ⟨v, n1, rfl, ⟨r, rfl⟩, hn1, hn2, hs1, hb1⟩
  have hk1 := hk0.trans hb1
  have hlt1 := hs1.lt
  clear hst hk0 hb1
  go_wp2_with fail
  refine (repliesOf_any σ n1 _ hs1 (by omega)).mono ?_
  rintro e w2 ⟨v, n2, rfl, ⟨xs, hxl, hacc⟩, hn3, hn4, hs2, hb2⟩
  obtain ⟨ax, cx, rfl, hcx⟩ := hacc.form
  obtain ⟨ax', cx', hv, hsx⟩ := hacc.sl RReply.ok (by decide) (G := fun _ => True) (fun _ h => h.elim) (fun _ _ => trivial)
  obtain ⟨lx, hlx⟩ : ∃ m, m = xs.length := ⟨_, rfl⟩
  have HLX := Lib.hid hlx
  rw [← hlx] at hsx hxl hcx hv ⊢
  injection hv with q1 q2 q3
  subst q1 q3
  have hk2 := hk1.trans hb2
  obtain ⟨fr, til, most⟩ := r
  have hkr : All w2 (w2.alloc (.cells #[.int .i64 fr, .int .i64 til, .int .i64 most] 66)) := Kept.alloc _ _ _
  have hblk := heap_at w2 (.cells #[.int .i64 fr, .int .i64 til, .int .i64 most] 66) _ rfl
  obtain ⟨rb, hrb⟩ : ∃ b, b = w2.heap.size := ⟨_, rfl⟩
  have HRB := Lib.hid hrb
  have HRC := Lib.hid (fun (wx : World) (k : All (w2.alloc (.cells #[.int .i64 fr, .int .i64 til, .int .i64 most] 66)) wx) => (by
    rw [← hrb] at hblk
    exact ⟨k.cell (cell_at (i := 0) hblk rfl) trivial, k.cell (cell_at (i := 1) hblk rfl) trivial, k.cell (cell_at (i := 2) hblk rfl) trivial⟩ : wx.cell? ⟨rb, 0, none⟩ = some (.int .i64 fr) ∧ wx.cell? ⟨rb, 1, none⟩ = some (.int .i64 til) ∧ wx.cell? ⟨rb, 2, none⟩ = some (.int .i64 most)))
  have HSX := Lib.hid (fun (wx : World) (k : All (w2.alloc (.cells #[.int .i64 fr, .int .i64 til, .int .i64 most] 66)) wx) => (hsx.keep RReply.ok (hkr.trans k)))
  have HT3 := Lib.hid (fun (wx : World) (k : All (w2.alloc (.cells #[.int .i64 fr, .int .i64 til, .int .i64 most] 66)) wx) => HTAB.out wx (hk2.trans (Kept.all (hkr.trans k))))
  have Hend := Lib.hid (show ∀ wx, All (w2.alloc (.cells #[.int .i64 fr, .int .i64 til, .int .i64 most] 66)) wx → Below w.heap.size w wx from fun wx hw => (hk2.trans (Kept.all (hkr.trans hw))).below (Nat.le_refl _) (fun k hk => by have := Hσ.out; omega))
  clear q2 hlx hacc hs1 hs2 hb2 hk1 hk2 hn1 hn2 hn3 hn4 hlt0 hlt1 hsx hblk hrb hkr
  go_wp2_with fail
  simp only [← HRB.out]
  generalize w2.alloc (.cells #[.int .i64 fr, .int .i64 til, .int .i64 most] 66) = w3 at *
  have HC := Lib.hid (fun (wx : World) (k : All w3 wx) => counted_any ⟨fr, til, most⟩ ax lx cx xs wx (HSX.out _ k) (by omega) (HT3.out _ k))
  have HR := Lib.hid (fun (wx : World) (k : All w3 wx) => replied_any ⟨fr, til, most⟩ ax lx cx xs wx (HSX.out _ k) (by omega) (HT3.out _ k))
  have HK := Lib.hid (fun (wx : World) (k : All w3 wx) => checkReplies_any ax lx cx xs wx (HSX.out _ k) (by omega) (HT3.out _ k))
  have HF := Lib.hid (fun (wx : World) (k : All w3 wx) => repliesFault_any ax lx cx xs wx (HSX.out _ k) (by omega) (HT3.out _ k))
  have HRF := Lib.hid (fun (wx : World) => replyRulesFault_any ⟨fr, til, most⟩ wx)
  have HE := Lib.hid (firstV_replies ⟨fr, til, most⟩ xs)
  have HRR := Lib.hid (show rrF ⟨fr, til, most⟩ = 0 → 0 ≤ til ∧ til ≤ 5761440 by
    intro h
    have e : rrF ⟨fr, til, most⟩ = if fr < 0 ∨ til < fr then 1 else if 5761440 < til then 1 else if most < 0 ∨ 6000 < most then 1 else 0 := rfl
    rw [e] at h
    split at h
    · omega
    · split at h
      · omega
      · omega)
  have HCZ := Lib.hid (show cntE ⟨fr, til, most⟩ xs = 0 → rrF ⟨fr, til, most⟩ = 0 by
    intro h
    unfold cntE at h
    split at h
    · exact absurd h (by assumption)
    · rename_i h2; omega)
  obtain ⟨f1, hf1⟩ : ∃ f, f = rrF ⟨fr, til, most⟩ := ⟨_, rfl⟩
  obtain ⟨f2, hf2⟩ : ∃ f, f = repsF xs := ⟨_, rfl⟩
  obtain ⟨er, her⟩ : ∃ f, f = cntE ⟨fr, til, most⟩ xs := ⟨_, rfl⟩
  have HER := Lib.hid her
  rw [← hf1] at HRF HE HRR HCZ
  rw [← hf2] at HK HF HE
  rw [← her] at HE HCZ
  clear hf1 hf2 her hcx
  obtain ⟨r0, r1, r2⟩ := HRC.out _ (Kept.refl _ _)
  by_cases h0 : er = 0
  · subst h0
    have hz := HRR.out (HCZ.out rfl)
    have HCO := Lib.hid (fun (wx : World) (k : All w3 wx) => countedOf_any ⟨fr, til, most⟩ hz.1 hz.2 ax lx cx xs wx (HSX.out _ k) (by omega))
    clear hz
    go_wp2_with fail
    refine (HC.out _ (Kept.refl _ _)).mono ?_
    rintro e w4 ⟨-, hok, hw4⟩
    obtain ⟨p1, c1, out1, rfl, hc1, hl1, ha1⟩ := hok HER.out.symm
    obtain ⟨p1', c1', hv, hs1⟩ := ha1.sl RReply.ok (by decide) (G := fun _ => True) (fun _ h => h.elim) (fun _ _ => trivial)
    obtain ⟨m1, hm1⟩ : ∃ m, m = out1.length := ⟨_, rfl⟩
    have HM1 := Lib.hid hm1
    rw [← hm1] at hs1 hl1 hv ⊢
    injection hv with q1 q2 q3
    subst q1 q3
    have HC1 := Lib.hid hc1
    have HS1 := Lib.hid (fun (wx : World) (k : All w4 wx) => hs1.keep RReply.ok k)
    clear q2 hok hc1 ha1 hs1 hm1 r0 r1 r2
    obtain ⟨r0, r1, r2⟩ := HRC.out _ hw4
    go_wp2_with fail
    refine (HR.out _ hw4).mono ?_
    rintro e w5 ⟨-, hok, hw5⟩
    obtain ⟨p2, c2, out2, rfl, hc2, hl2, ha2⟩ := hok HER.out.symm
    have he2 := hc2.uniq HC1.out
    subst he2
    obtain ⟨p2', c2', hv, hs2⟩ := ha2.sl RStr.ok (by decide) (G := fun _ => True) (fun _ h => h.elim) (fun _ _ => trivial)
    rw [List.length_map] at hv hs2
    rw [← HM1.out] at hv hs2 ⊢
    injection hv with q1 q2 q3
    subst q1 q3
    have HS2 := Lib.hid (fun (wx : World) (k : All w5 wx) => hs2.keep RStr.ok k)
    have hw35 := hw4.trans hw5
    clear q2 hok hc2 hl2 ha2 hs2 r0 r1 r2
    obtain ⟨r0, r1, r2⟩ := HRC.out _ hw35
    go_wp2_with fail
    refine (HK.out _ hw35).mono ?_
    rintro e w6 ⟨rfl, hw6⟩
    have hw36 := hw35.trans hw6
    clear r0 r1 r2
    go_wp2_with fail
    refine (HF.out _ hw36).mono ?_
    rintro e w7 ⟨rfl, hw7⟩
    have hw37 := hw36.trans hw7
    obtain ⟨r0, r1, r2⟩ := HRC.out _ hw37
    go_wp2_with fail
    refine (HRF.out _).mono ?_
    rintro e w8 ⟨rfl, hw8⟩
    have hw38 := hw37.trans hw8
    clear r0 r1 r2
    go_wp2_with fail
    refine (HF.out _ hw38).mono ?_
    rintro e w9 ⟨rfl, hw9⟩
    have hw39 := hw38.trans hw9
    go_wp2_with fail
    refine (errsV_any (some ⟨w9.heap.size, 0, none⟩) 2 2 [f1, f2] _ (Sl.lit_ints _ (heap_at _ _ _ rfl) rfl trivial) (by omega)).mono ?_
    rintro e w' ⟨rfl, hh⟩
    subst hh
    rw [HE.out]
    have hwA := hw39.then_alloc (.cells #[.int .i64 f1, .int .i64 f2] 31)
    obtain ⟨r0, r1, r2⟩ := HRC.out _ hwA
    go_wp2_with fail
    refine (HCO.out _ hwA).mono ?_
    rintro e w10 ⟨p3, c3, out3, rfl, hc3, hl3, ha3, hw10⟩
    have he3 := hc3.uniq HC1.out
    subst he3
    obtain ⟨p3', c3', hv, hs3⟩ := ha3.sl RReply.ok (by decide) (G := fun _ => True) (fun _ h => h.elim) (fun _ _ => trivial)
    rw [← HM1.out] at hv hs3 ⊢
    injection hv with q1 q2 q3
    subst q1 q3
    have hw3T := hwA.trans hw10
    have hw4T : All w4 w10 := (((((hw5.trans hw6).trans hw7).trans hw8).trans hw9).then_alloc _).trans hw10
    have hw5T : All w5 w10 := ((((hw6.trans hw7).trans hw8).trans hw9).then_alloc _).trans hw10
    have hm7 : m1 ≤ 1000000 := by have := HLX.out; omega
    clear q2 hc3 hl3 ha3 r0 r1 r2 hw4 hw5 hw35 hw6 hw36 hw7 hw37 hw8 hw38 hw9 hw39 hwA hw10
    go_wp2_with fail
    refine (equalReply_same p1 m1 c1 p3 m1 c3 _ _ (HS1.out _ hw4T) hs3 hm7).mono ?_
    rintro e w11 ⟨rfl, hw11⟩
    go_wp2_with fail
    refine (equalFuncReply_same p2 m1 c2 p3 m1 c3 _ _ (HS2.out _ (hw5T.trans hw11)) (hs3.keep RReply.ok hw11) hm7).mono ?_
    rintro e w12 ⟨rfl, hw12⟩
    go_wp2_with fail
    refine (talked_any _).mono ?_
    rintro e w13 ⟨rfl, hw13⟩
    go_wp2_with fail
    go_ret
    exact ⟨rfl, Hend.out _ (((hw3T.trans hw11).trans hw12).trans hw13)⟩
  · have hne : (er != 0) = true := by simpa using h0
    have H0 := Lib.hid (show ¬ cntE ⟨fr, til, most⟩ xs = 0 from fun h => h0 (HER.out.trans h))
    clear h0
    go_wp2_with fail
    refine (HC.out _ (Kept.refl _ _)).mono ?_
    rintro e w4 ⟨hbad, -, hw4⟩
    have he := hbad H0.out
    rw [← HER.out] at he
    subst he
    clear hbad r0 r1 r2
    obtain ⟨r0, r1, r2⟩ := HRC.out _ hw4
    go_wp2_with fail
    refine (HR.out _ hw4).mono ?_
    rintro e w5 ⟨hbad, -, hw5⟩
    have he := hbad H0.out
    rw [← HER.out] at he
    subst he
    have hw35 := hw4.trans hw5
    clear hbad r0 r1 r2
    go_wp2_with fail
    refine (HK.out _ hw35).mono ?_
    rintro e w6 ⟨rfl, hw6⟩
    have hw36 := hw35.trans hw6
    go_wp2_with fail
    refine (HF.out _ hw36).mono ?_
    rintro e w7 ⟨rfl, hw7⟩
    have hw37 := hw36.trans hw7
    obtain ⟨r0, r1, r2⟩ := HRC.out _ hw37
    go_wp2_with fail
    refine (HRF.out _).mono ?_
    rintro e w8 ⟨rfl, hw8⟩
    have hw38 := hw37.trans hw8
    clear r0 r1 r2
    go_wp2_with fail
    refine (HF.out _ hw38).mono ?_
    rintro e w9 ⟨rfl, hw9⟩
    have hw39 := hw38.trans hw9
    go_wp2_with fail
    refine (errsV_any (some ⟨w9.heap.size, 0, none⟩) 2 2 [f1, f2] _ (Sl.lit_ints _ (heap_at _ _ _ rfl) rfl trivial) (by omega)).mono ?_
    rintro e w' ⟨rfl, hh⟩
    subst hh
    rw [HE.out]
    have hwA := hw39.then_alloc (.cells #[.int .i64 f1, .int .i64 f2] 31)
    clear hw4 hw5 hw35 hw6 hw36 hw7 hw37 hw8 hw38 hw9 hw39
    go_wp2_with fail
    refine (talked_any _).mono ?_
    rintro e w11 ⟨rfl, hw11⟩
    go_wp2_with fail
    go_ret
    exact ⟨rfl, Hend.out _ (hwA.trans hw11)⟩
end Go.Proofs.YtllkemadaemjeaaGreatDoor
