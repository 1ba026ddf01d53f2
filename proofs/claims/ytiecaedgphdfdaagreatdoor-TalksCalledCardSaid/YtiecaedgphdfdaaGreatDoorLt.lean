/- The law TalksCalled, walked. -/
import Derived.Test.YtiecaedgphdfdaaGreatDoorUf
import Derived.Test.YtiecaedgphdfdaaGreatDoorUg
import Derived.Test.YtiecaedgphdfdaaGreatDoorUi
import Derived.Test.YtiecaedgphdfdaaGreatDoorUc
import Derived.Test.YtiecaedgphdfdaaGreatDoorRi
import Derived.Test.YtiecaedgphdfdaaGreatDoorRk
import Derived.Test.YtiecaedgphdfdaaGreatDoorWb
namespace Go.Proofs.YtiecaedgphdfdaaGreatDoor
open Go.RowKit

theorem firstV_talk (r : TR) (ps : List ByteArray) (xs : List Mark3) (rep : List ByteArray) : firstV [talkF r, namesF ps, marksF xs, namesF rep] = talkE r ps xs rep := by
  unfold talkE firstV firstV firstV firstV firstV
  split
  · rfl
  · split
    · rfl
    · split
      · rfl
      · split
        · rfl
        · rename_i h; omega

set_option maxRecDepth 100000 in
set_option maxHeartbeats 6400000 in
theorem talksCalled_walk (a : Option Addr) (len cap : Nat) (w : World) (h : IsRow w a len cap) :
    Calls Tryz.prog 5 #[.slice a len cap] w fun e w' => e = .returned (.bool true) ∧ Below w.heap.size w w' := by
  have hst := h.start
  obtain ⟨σ, hσ⟩ : ∃ σ : St, σ = ⟨w.heap.size, a, len, cap⟩ := ⟨_, rfl⟩
  have hσb : σ.b = w.heap.size := by rw [hσ]
  rw [← hσ] at hst
  have Hσ := Lib.hid hσb
  have hptr : (Value.pointer (some ⟨w.heap.size, 0, none⟩)) = Value.pointer (some ⟨σ.b, 0, none⟩) := by rw [hσb]
  have Hptr := Lib.hid hptr
  have hk0 : Kept (fun k => k ≠ σ.b) w (w.alloc (.cells #[.slice a len cap, .int .i64 0] 25)) := Kept.alloc _ _ _
  clear hσ hσb hptr h
  go_enter Tryz.func5, Tryz.ntmps5
  go_wp2_with fail
  simp only [Hptr.out]
  generalize w.alloc (.cells #[.slice a len cap, .int .i64 0] 25) = w0 at *
  have hlt0 := hst.lt
  refine (talkRules_any σ 0 _ hst (by omega)).mono ?_
  rintro e w1 ⟨v, n1, rfl, ⟨r, rfl⟩, hn1, hn2, hs1, hb1⟩
  obtain ⟨sp, fr, til, few, re⟩ := r
  have hk1 := hk0.trans hb1
  clear hst hk0 hb1
  go_wp2_with fail
  refine (ids10_any σ n1 _ hs1 (by omega)).mono ?_
  rintro e w2 ⟨v, n2, rfl, ⟨ps, hpl, haccp⟩, hn3, hn4, hs2, hb2⟩
  have hlt1 := hs1.lt
  obtain ⟨ap, cp, rfl, hslp⟩ := haccp.sl RStr.ok (by decide) (G := fun k => k ≠ σ.b) (fun _ h => h.elim) (fun k hk => by have := (haccp.lt k hk).1; omega)
  obtain ⟨lp, hlp⟩ : ∃ m, m = ps.length := ⟨_, rfl⟩
  rw [← hlp] at hslp hpl ⊢
  have hk2 := hk1.trans hb2
  clear hlp haccp hs1 hk1 hb2
  go_wp2_with fail
  refine (marks10_any σ n2 _ hs2 (by omega)).mono ?_
  rintro e w3 ⟨v, n3, rfl, ⟨xs, hxl, haccm⟩, hn5, hn6, hs3, hb3⟩
  have hlt2 := hs2.lt
  obtain ⟨am, cm, rfl, hslm⟩ := haccm.sl RMark.ok (by decide) (G := fun k => k ≠ σ.b) (fun _ h => h.elim) (fun k hk => by have := (haccm.lt k hk).1; omega)
  obtain ⟨lm, hlm⟩ : ∃ m, m = xs.length := ⟨_, rfl⟩
  rw [← hlm] at hslm hxl ⊢
  have hk3 := hk2.trans hb3
  have hslp3 := hslp.keep RStr.ok hb3
  clear hlm haccm hs2 hk2 hb3 hslp
  go_wp2_with fail
  refine (ids10_any σ n3 _ hs3 (by omega)).mono ?_
  rintro e w4 ⟨v, n4, rfl, ⟨rep, hrl, haccr⟩, hn7, hn8, hs4, hb4⟩
  have hlt3 := hs3.lt
  obtain ⟨ar, cr, rfl, hslr⟩ := haccr.sl RStr.ok (by decide) (G := fun k => k ≠ σ.b) (fun _ h => h.elim) (fun k hk => by have := (haccr.lt k hk).1; omega)
  obtain ⟨lr, hlr⟩ : ∃ m, m = rep.length := ⟨_, rfl⟩
  rw [← hlr] at hslr hrl ⊢
  have hk4 := hk3.trans hb4
  have hslp4 := hslp3.keep RStr.ok hb4
  have hslm4 := hslm.keep RMark.ok hb4
  have hka : But σ.b w4 (w4.alloc (.cells #[.int .i64 sp, .int .i64 fr, .int .i64 til, .int .i64 few, .bool re] 68)) := Kept.alloc _ _ _
  have hslp5 := (hslp4.keep RStr.ok hka).mono RStr.ok (G := fun _ => True) (fun _ _ => trivial)
  have hslm5 := (hslm4.keep RMark.ok hka).mono RMark.ok (G := fun _ => True) (fun _ _ => trivial)
  have hslr5 := (hslr.keep RStr.ok hka).mono RStr.ok (G := fun _ => True) (fun _ _ => trivial)
  have hk5 := hk4.trans hka
  have hrb := heap_at w4 (.cells #[.int .i64 sp, .int .i64 fr, .int .i64 til, .int .i64 few, .bool re] 68) _ rfl
  have hlt4 : w4.heap.size < (w4.alloc (.cells #[.int .i64 sp, .int .i64 fr, .int .i64 til, .int .i64 few, .bool re] 68)).heap.size := by simp
  have Hend := Lib.hid (show ∀ wx, All (w4.alloc (.cells #[.int .i64 sp, .int .i64 fr, .int .i64 til, .int .i64 few, .bool re] 68)) wx → Below w.heap.size w wx from fun wx hw => (hk5.trans (Kept.all hw)).below (Nat.le_refl _) (fun k hk => by have := Hσ.out; omega))
  obtain ⟨tb, htb⟩ : ∃ tb, tb = w4.heap.size := ⟨_, rfl⟩
  have Htb := Lib.hid htb
  rw [← htb] at hrb hlt4
  clear htb hlr haccr hs3 hk3 hb4 hslp3 hslp4 hslm hslm4 hslr hka hk5 hk4 hs4 hlt0 hlt1 hlt2 hlt3 hn1 hn2 hn3 hn4 hn5 hn6 hn7 hn8
  go_wp2_with fail
  rw [← Htb.out]
  clear Htb
  generalize w4.alloc (.cells #[.int .i64 sp, .int .i64 fr, .int .i64 til, .int .i64 few, .bool re] 68) = w5 at *
  have r0 := cell_at (i := 0) hrb rfl
  have r1 := cell_at (i := 1) hrb rfl
  have r2 := cell_at (i := 2) hrb rfl
  have r3 := cell_at (i := 3) hrb rfl
  have r4 := cell_at (i := 4) hrb rfl
  have HR := Lib.hid (fun (wx : World) (k : All w5 wx) => (⟨k.cell r0 trivial, k.cell r1 trivial, k.cell r2 trivial, k.cell r3 trivial, k.cell r4 trivial⟩ : _ ∧ _ ∧ _ ∧ _ ∧ _))
  clear hrb
  have HT := Lib.hid (firstV_talk ⟨sp, fr, til, few, re⟩ ps xs rep)
  have HTalks := Lib.hid (talks_any sp fr til few re ap lp cp ps am lm cm xs ar lr cr rep w5 hslp5 (by omega) hslm5 (by omega) hslr5 (by omega))
  have HTalksOf := Lib.hid (fun (wx : World) (k : All w5 wx) h1 h3 => talksOf_any sp fr til few re ap lp cp ps am lm cm xs ar lr cr rep wx (hslp5.keep RStr.ok k) (by omega) (hslm5.keep RMark.ok k) (hslr5.keep RStr.ok k) (by omega) h1 h3)
  have HF1 := Lib.hid (fun (wx : World) => talkRulesFault_any sp fr til few re wx)
  have HF2 := Lib.hid (fun (wx : World) (k : All w5 wx) => namesFaultR_any ap lp cp ps wx (hslp5.keep RStr.ok k) (by omega))
  have HF3 := Lib.hid (fun (wx : World) (k : All w5 wx) => marksFault_any am lm cm xs wx (hslm5.keep RMark.ok k) (by omega))
  have HF4 := Lib.hid (fun (wx : World) (k : All w5 wx) => namesFaultR_any ar lr cr rep wx (hslr5.keep RStr.ok k) (by omega))
  have Hlen := Lib.hid (show (talksOf ⟨sp, fr, til, few, re⟩ (fun p => srtI (scs xs p)) rep ps).length ≤ 1000000 from by have := talksOf_len (r := ⟨sp, fr, til, few, re⟩) (f := fun p => srtI (scs xs p)) (rep := rep) ps; have := hslp5.len; omega)
  have HE0 := Lib.hid (show talkE ⟨sp, fr, til, few, re⟩ ps xs rep = 0 → talkF ⟨sp, fr, til, few, re⟩ = 0 ∧ marksF xs = 0 from fun h => by
    unfold talkE at h
    split at h
    · exact absurd h (by assumption)
    · split at h
      · exact absurd h (by assumption)
      · split at h
        · exact absurd h (by assumption)
        · exact ⟨by omega, by omega⟩)
  clear hslp5 hslm5 hslr5
  obtain ⟨er, her⟩ : ∃ er, er = talkE ⟨sp, fr, til, few, re⟩ ps xs rep := ⟨_, rfl⟩
  have HER := Lib.hid her
  obtain ⟨f1, hf1⟩ : ∃ x, x = talkF ⟨sp, fr, til, few, re⟩ := ⟨_, rfl⟩
  obtain ⟨f2, hf2⟩ : ∃ x, x = namesF ps := ⟨_, rfl⟩
  obtain ⟨f3, hf3⟩ : ∃ x, x = marksF xs := ⟨_, rfl⟩
  obtain ⟨f4, hf4⟩ : ∃ x, x = namesF rep := ⟨_, rfl⟩
  have HV := Lib.hid (show firstV [f1, f2, f3, f4] = er from by rw [hf1, hf2, hf3, hf4, her]; exact HT.out)
  have H1 := Lib.hid hf1
  have H2 := Lib.hid hf2
  have H3 := Lib.hid hf3
  have H4 := Lib.hid hf4
  clear her hf1 hf2 hf3 hf4 HT
  go_wp2_with fail
  refine HTalks.out.mono ?_
  rintro e w6 ⟨hbad, hok, hw6⟩
  rw [← HER.out] at hbad hok
  have hlen6 := hw6.size
  by_cases h0 : er = 0
  · obtain ⟨v, rfl, hacc⟩ := hok h0
    subst h0
    clear hbad hok
    obtain ⟨av, cv, rfl, hslv⟩ := hacc.sl RCalled.ok (by decide) (G := fun _ => True) (fun _ _ => trivial) (fun _ _ => trivial)
    have HSV := Lib.hid (fun (wx : World) (k : All w6 wx) => hslv.keep RCalled.ok k)
    obtain ⟨lv, hlv⟩ : ∃ m, m = (talksOf ⟨sp, fr, til, few, re⟩ (fun p => srtI (scs xs p)) rep ps).length := ⟨_, rfl⟩
    have HLV := Lib.hid hlv
    rw [← hlv] at HSV ⊢
    clear hlv hacc hslv
    clear r0 r1 r2 r3 r4
    obtain ⟨r0, r1, r2, r3, r4⟩ := HR.out w6 hw6
    go_wp2_with fail
    refine (HF1.out _).mono ?_
    rintro e w7 ⟨rfl, hw7⟩
    rw [← H1.out]
    have hw57 := hw6.trans hw7; have hw67 := hw7
    go_wp2_with fail
    refine (HF2.out _ hw57).mono ?_
    rintro e w8 ⟨rfl, hw8⟩
    rw [← H2.out]
    have hw58 := hw57.trans hw8; have hw68 := hw67.trans hw8
    go_wp2_with fail
    refine (HF3.out _ hw58).mono ?_
    rintro e w9 ⟨rfl, hw9⟩
    rw [← H3.out]
    have hw59 := hw58.trans hw9; have hw69 := hw68.trans hw9
    go_wp2_with fail
    refine (HF4.out _ hw59).mono ?_
    rintro e w10 ⟨rfl, hw10⟩
    rw [← H4.out]
    have hw510 := hw59.trans hw10; have hw610 := hw69.trans hw10
    clear hw7 hw8 hw9 hw10 hw57 hw58 hw59 hw67 hw68 hw69
    go_wp2_with fail
    refine (errsV_any (some ⟨w10.heap.size, 0, none⟩) 4 4 [f1, f2, f3, f4] _ (Sl.lit_ints _ (heap_at _ _ _ rfl) rfl trivial) (by omega)).mono ?_
    rintro e w' ⟨rfl, rfl⟩
    rw [HV.out]
    clear r0 r1 r2 r3 r4
    obtain ⟨r0, r1, r2, r3, r4⟩ := HR.out w10 hw510
    have hlt10 : tb < w10.heap.size := lt_of_cell r0
    obtain ⟨g1, g3⟩ := HE0.out HER.out.symm
    have G1 := Lib.hid g1
    have G3 := Lib.hid g3
    clear g1 g3
    go_wp2_with fail
    refine (HTalksOf.out _ (hw510.then_alloc _) G1.out G3.out).mono ?_
    rintro e w11 ⟨v2, rfl, hacc2, hw11⟩
    obtain ⟨av2, cv2, rfl, hslv2⟩ := hacc2.sl RCalled.ok (by decide) (G := fun _ => True) (fun _ _ => trivial) (fun _ _ => trivial)
    have hw511 := (hw510.then_alloc _).trans hw11
    rw [← HLV.out]
    rw [← HLV.out] at hslv2
    go_wp2_with fail
    refine (equalCalled_same av lv cv av2 lv cv2 _ _ (HSV.out _ ((hw610.then_alloc _).trans hw11)) hslv2 (by have := Hlen.out; have := HLV.out; omega)).mono ?_
    rintro e w12 ⟨rfl, hw12⟩
    go_wp2_with fail
    refine (talked_any _).mono ?_
    rintro e w13 ⟨rfl, hw13⟩
    go_wp2_with fail
    go_ret
    exact ⟨rfl, Hend.out _ ((hw511.trans hw12).trans hw13)⟩
  · have he := hbad h0
    subst he
    clear hbad hok
    have hne : (er != 0) = true := by simpa using h0
    clear r0 r1 r2 r3 r4
    obtain ⟨r0, r1, r2, r3, r4⟩ := HR.out w6 hw6
    go_wp2_with fail
    refine (HF1.out _).mono ?_
    rintro e w7 ⟨rfl, hw7⟩
    rw [← H1.out]
    have hw57 := hw6.trans hw7; have hw67 := hw7
    go_wp2_with fail
    refine (HF2.out _ hw57).mono ?_
    rintro e w8 ⟨rfl, hw8⟩
    rw [← H2.out]
    have hw58 := hw57.trans hw8; have hw68 := hw67.trans hw8
    go_wp2_with fail
    refine (HF3.out _ hw58).mono ?_
    rintro e w9 ⟨rfl, hw9⟩
    rw [← H3.out]
    have hw59 := hw58.trans hw9; have hw69 := hw68.trans hw9
    go_wp2_with fail
    refine (HF4.out _ hw59).mono ?_
    rintro e w10 ⟨rfl, hw10⟩
    rw [← H4.out]
    have hw510 := hw59.trans hw10; have hw610 := hw69.trans hw10
    clear hw7 hw8 hw9 hw10 hw57 hw58 hw59 hw67 hw68 hw69
    go_wp2_with fail
    refine (errsV_any (some ⟨w10.heap.size, 0, none⟩) 4 4 [f1, f2, f3, f4] _ (Sl.lit_ints _ (heap_at _ _ _ rfl) rfl trivial) (by omega)).mono ?_
    rintro e w' ⟨rfl, rfl⟩
    rw [HV.out]
    go_wp2_with fail
    refine (talked_any _).mono ?_
    rintro e w13 ⟨rfl, hw13⟩
    go_wp2_with fail
    go_ret
    exact ⟨rfl, Hend.out _ ((hw510.then_alloc _).trans hw13)⟩
end Go.Proofs.YtiecaedgphdfdaaGreatDoor
