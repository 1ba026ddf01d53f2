/- The law PapersCompared, walked. -/
import Derived.Test.YtiecaedgphdfdaaGreatDoorTi
import Derived.Test.YtiecaedgphdfdaaGreatDoorTh
import Derived.Test.YtiecaedgphdfdaaGreatDoorTf
import Derived.Test.YtiecaedgphdfdaaGreatDoorRi
import Derived.Test.YtiecaedgphdfdaaGreatDoorRk
import Derived.Test.YtiecaedgphdfdaaGreatDoorWb
namespace Go.Proofs.YtiecaedgphdfdaaGreatDoor
open Go.RowKit

def PMarks (B : Nat) (v : Value) (w : World) : Prop := ∃ xs : List Mark3, xs.length ≤ 21 ∧ Acc RMark 3 132 (fun _ => False) B w v xs
theorem PMarks.stays {σ : St} {B : Nat} (hB : σ.b < B) : Stays (fun w w' => But σ.b w w') (PMarks B) := fun _ _ _ k ⟨xs, h1, h2⟩ => ⟨xs, h1, h2.keep RMark.ok k (fun _ h => h.elim) (fun j hj => by have := (h2.lt j hj).1; omega)⟩
theorem firstV_ord (cs : List Int) (fl : Int) (xs : List Mark3) (a b : ByteArray) : firstV [rulF cs fl, marksF xs, if isKeyB a = true then 0 else 5, if isKeyB b = true then 0 else 5] = ordE cs fl xs a b := by
  by_cases h1 : rulF cs fl = 0
  · by_cases h2 : marksF xs = 0
    · cases h3 : isKeyB a with
      | false => rw [ordE_key1 h1 h2 h3, h1, h2]; simp [firstV]
      | true =>
        cases h4 : isKeyB b with
        | false => rw [ordE_key2 h1 h2 h3 h4, h1, h2]; simp [firstV]
        | true => rw [ordE_ok h1 h2 h3 h4, h1, h2]; simp [firstV]
    · rw [ordE_marks h1 h2, h1]; simp [firstV, h2]
  · rw [ordE_rules h1]; simp [firstV, h1]

/-- One of six keys. -/
theorem papersKey_any (σ : St) (tb n : Nat) (w : World) (hs : Str σ w n) (hn : n ≤ 4611686018427380000) (hc : w.heap[tb]? = some (.cells #[(.pointer (some ⟨σ.b, 0, none⟩))] 23 (0, 0))) :
    Calls Tryz.prog 23 #[.pointer (some ⟨tb, 0, none⟩)] w (StPost σ n 1 w (IsStr fun r => r.size ≤ 1000000)) := by
  have hlt := hs.lt
  have hlb : tb < w.heap.size := (Array.getElem?_eq_some_iff.1 hc).1
  have c0 := cell_at (i := 0) hc rfl
  clear hc
  go_enter Tryz.func23, Tryz.ntmps23
  go_wp2_with fail
  refine (pick_any σ n _ _ _ [0, 0, 1, 1, 2, 3, 4, 5] _ (hs.keep (by repeat (first | exact Kept.refl _ _ | refine Kept.then_alloc ?_ _))) (by omega) (Sl.lit_ints _ (heap_at _ _ _ (by simp)) rfl (by simp; omega)) (by simp) (by simp)).mono ?_
  rintro e w2 ⟨v, n2, rfl, ⟨r, rfl, hr⟩, hn3, hn4, hs2, hb2⟩
  have hr5 : 0 ≤ r ∧ r < 6 := by simp at hr; omega
  obtain ⟨i, rfl⟩ := Int.eq_ofNat_of_zero_le hr5.1
  have hi5 : i < 6 := by omega
  have hblk := hb2.heap (heap_old _ (heap_at w _ _ rfl)) (by omega)
  have hb12 : But σ.b w w2 := Kept.trans (by repeat (first | exact Kept.refl _ _ | refine Kept.then_alloc ?_ _)) hb2
  obtain ⟨y, hcy, hyz⟩ : ∃ y : ByteArray, w2.cell? ⟨w.heap.size, i, none⟩ = some (.string y) ∧ y.size ≤ 1000000 := by
    obtain ⟨b', off', y, ha', -, hcy, hyz, -, -, -⟩ := (Sl.lit_strs (F := fun _ => True) [⟨#[112, 97]⟩, ⟨#[112, 98]⟩, ⟨#[112, 99]⟩, ⟨#[112, 100]⟩, ⟨#[112, 122]⟩, ⟨#[65]⟩] hblk rfl trivial).atStr (k := i) (by simp; omega)
    simp only [Option.some.injEq, Addr.mk.injEq] at ha'
    obtain ⟨rfl, rfl, -⟩ := ha'
    exact ⟨y, by simpa using hcy, hyz⟩
  clear hr hr5 hblk hb2 c0
  go_wp2_with fail
  go_ret
  exact ⟨_, n2, rfl, ⟨y, rfl, hyz⟩, hn3, hn4, hs2, hb12⟩

set_option maxRecDepth 100000 in
set_option maxHeartbeats 6400000 in
theorem papersCompared_walk (a : Option Addr) (len cap : Nat) (w : World) (h : IsRow w a len cap) :
    Calls Tryz.prog 4 #[.slice a len cap] w fun e w' => e = .returned (.bool true) ∧ Below w.heap.size w w' := by
  have hst := h.start
  obtain ⟨σ, hσ⟩ : ∃ σ : St, σ = ⟨w.heap.size, a, len, cap⟩ := ⟨_, rfl⟩
  have hσb : σ.b = w.heap.size := by rw [hσ]
  rw [← hσ] at hst
  have Hσ := Lib.hid hσb
  have hptr : (Value.pointer (some ⟨w.heap.size, 0, none⟩)) = Value.pointer (some ⟨σ.b, 0, none⟩) := by rw [hσb]
  have Hptr := Lib.hid hptr
  have hk0 : Kept (fun k => k ≠ σ.b) w (w.alloc (.cells #[.slice a len cap, .int .i64 0] 25)) := Kept.alloc _ _ _
  have htb0 : σ.b < (w.alloc (.cells #[.slice a len cap, .int .i64 0] 25)).heap.size := by simp; omega
  have hsz1 : w.heap.size + 1 = (w.alloc (.cells #[.slice a len cap, .int .i64 0] 25)).heap.size := by simp
  have Hsz1 := Lib.hid hsz1
  clear hσ hσb hptr h hsz1
  go_enter Tryz.func4, Tryz.ntmps4
  go_wp2_with fail
  simp only [Hptr.out, Hsz1.out]
  generalize w.alloc (.cells #[.slice a len cap, .int .i64 0] 25) = w0 at *
  obtain ⟨tb, htb⟩ : ∃ tb, tb = w0.heap.size := ⟨_, rfl⟩
  have hcell := heap_at w0 (.cells #[(.pointer (some ⟨σ.b, 0, none⟩))] 23) _ rfl
  have hst1 := hst.keep (Kept.alloc (fun _ => True) w0 (.cells #[(.pointer (some ⟨σ.b, 0, none⟩))] 23))
  have hk1 : But σ.b w (w0.alloc (.cells #[(.pointer (some ⟨σ.b, 0, none⟩))] 23)) := hk0.then_alloc _
  rw [← htb] at hcell htb0 ⊢
  clear htb hst hk0 Hsz1
  generalize w0.alloc (.cells #[(.pointer (some ⟨σ.b, 0, none⟩))] 23) = w1 at *
  have htbσ : tb ≠ σ.b := by omega
  have HC := Lib.hid hcell
  have HS1 := Lib.hid hst1
  have HK1 := Lib.hid hk1
  have hlt1 := hst1.lt
  clear hcell hst1 hk1 htb0
  refine wp_region_inv 5 (by kernel_rfl) (by kernel_rfl) (by kernel_rfl) (GStr 1000 σ 0 w1)
    (DL [PIs (.pointer (some ⟨σ.b, 0, none⟩)), PRules σ, PIs (.pointer (some ⟨σ.b, 0, none⟩)), PMarks w1.heap.size, PNew σ w1.heap.size 52 #[.slice none 0 0, .int .i64 0]]) (fun w w' => But σ.b w w')
    (DL.keep (by simp only [List.forall_mem_cons, List.not_mem_nil, false_implies, implies_true, and_true]; exact ⟨PIs.stays _ _, PRules.stays _, PIs.stays _ _, PMarks.stays hlt1, PNew.stays _ _ _ _⟩)) ?_ ?_ ?_
  · exact ⟨0, Nat.le_refl _, by omega, HS1.out.keep (Kept.drew _ _), Kept.drew _ _⟩
  · intro i o t ho hd hi k a' wx hk hg hdf hts hoth hdeps
    obtain ⟨m, hm1, hm2, hst, hbut⟩ := hg
    have hlt := hst.lt
    have hszx := hbut.size
    have hcx := hbut.heap HC.out htbσ
    have c0 := cell_at (i := 0) hcx rfl
    have h5 : i = 0 ∨ i = 1 ∨ i = 2 ∨ i = 3 ∨ i = 4 := by omega
    rcases h5 with rfl | rfl | rfl | rfl | rfl
    · obtain rfl := Option.some.inj ho
      obtain rfl := Option.some.inj hd
      have e0 : a'.tmps.getD 3 undef = .pointer (some ⟨tb, 0, none⟩) := tmp_of ((hoth 3 (by decide)).trans rfl)
      clear hoth hdeps hdf hts ho hcx
      refine wp_via (fun K' hK => ?_)
      have HK := Lib.hid hK
      clear hK
      go_simp
      exact HK.out _ _ ⟨_, rfl, GStr.same hm1 hm2 hst hbut, Kept.refl _ _, rfl⟩
    · obtain rfl := Option.some.inj ho
      obtain rfl := Option.some.inj hd
      have e0 : a'.tmps.getD 15 undef = (.pointer (some ⟨σ.b, 0, none⟩)) := hdeps 0 (by decide) 15 rfl
      clear hoth hdeps hdf hts ho hcx
      refine wp_via (fun K' hK => ?_)
      have HK := Lib.hid hK
      clear hK
      go_simp
      refine (decideRules_any σ m _ hst (by omega)).mono ?_
      rintro e w2 ⟨v, m2, rfl, hq, hm3, hm4, hst2, hb2⟩
      exact HK.out _ _ ⟨_, rfl, GStr.call hm1 hm2 hbut hm3 (by omega) hst2 hb2, hb2, hq⟩
    · obtain rfl := Option.some.inj ho
      obtain rfl := Option.some.inj hd
      have e0 : a'.tmps.getD 3 undef = .pointer (some ⟨tb, 0, none⟩) := tmp_of ((hoth 3 (by decide)).trans rfl)
      clear hoth hdeps hdf hts ho hcx
      refine wp_via (fun K' hK => ?_)
      have HK := Lib.hid hK
      clear hK
      go_simp
      exact HK.out _ _ ⟨_, rfl, GStr.same hm1 hm2 hst hbut, Kept.refl _ _, rfl⟩
    · obtain rfl := Option.some.inj ho
      obtain rfl := Option.some.inj hd
      have e0 : a'.tmps.getD 17 undef = (.pointer (some ⟨σ.b, 0, none⟩)) := hdeps 2 (by decide) 17 rfl
      clear hoth hdeps hdf hts ho hcx
      refine wp_via (fun K' hK => ?_)
      have HK := Lib.hid hK
      clear hK
      go_simp
      refine (marks10_any σ m _ hst (by omega)).mono ?_
      rintro e w2 ⟨v, m2, rfl, ⟨xs, hx1, hx2⟩, hm3, hm4, hst2, hb2⟩
      exact HK.out _ _ ⟨_, rfl, GStr.call hm1 hm2 hbut hm3 (by omega) hst2 hb2, hb2, ⟨xs, hx1, hx2.base hszx⟩⟩
    · obtain rfl := Option.some.inj ho
      obtain rfl := Option.some.inj hd
      clear hoth hdeps hdf hts ho hcx
      refine wp_via (fun K' hK => ?_)
      have HK := Lib.hid hK
      clear hK
      go_simp
      exact HK.out _ _ ⟨_, rfl, GStr.alloc _ hm1 hm2 hst hbut, Kept.alloc _ _ _, ⟨wx.heap.size, rfl, hszx, Nat.ne_of_gt hlt, heap_at _ _ _ rfl⟩⟩
  · intro wx f hg hd
    obtain ⟨m, -, hm2, hst, hbut⟩ := hg
    obtain ⟨u, fl, e16, hby⟩ : PRules σ (f 16) wx := hd 1 16 (by decide) rfl
    obtain ⟨xs, hxl, hacc⟩ : PMarks w1.heap.size (f 18) wx := hd 3 18 (by decide) rfl
    obtain ⟨rb, e4, hrb1, hrb2, hrb3⟩ : PNew σ w1.heap.size 52 #[.slice none 0 0, .int .i64 0] (f 4) wx := hd 4 4 (by decide) rfl
    have hoff := hacc.notType hrb3 (by decide)
    obtain ⟨am, cm, e18, hsl⟩ := hacc.sl RMark.ok (by decide) (G := fun k => k ≠ σ.b ∧ k ≠ rb) (fun _ h => h.elim) (fun k hk => ⟨by have := (hacc.lt k hk).1; omega, hoff k hk⟩)
    obtain ⟨lm, hlm⟩ : ∃ m, m = xs.length := ⟨_, rfl⟩
    rw [← hlm] at hsl hxl e18
    have hby0 := hby
    obtain ⟨ar, lr, cr, cs, rfl, hcr, hcl, -⟩ := hby.sl
    have hk5 : Kept (fun k => k ≠ rb) wx ((wx.setCell ⟨rb, 0, none⟩ (.slice ar lr cr)).setCell ⟨rb, 1, none⟩ (.int .i64 fl)) := ((Kept.refl _ _).then_setCell _ _ (by simp)).then_setCell _ _ (by simp)
    have hby5 := hby0.keepOff hrb3 (by decide) hk5
    have hsl5 := (hsl.keep RMark.ok (hk5.mono (fun k hk => hk.2))).mono RMark.ok (G := fun k => k ≠ σ.b) (fun k hk => hk.1)
    have hrb5 := box2' hrb3 (.slice ar lr cr) (.int .i64 fl)
    have hszw := hbut.size
    have hlc : tb < w1.heap.size := (Array.getElem?_eq_some_iff.1 HC.out).1
    have hc5 := hk5.heap (hbut.heap HC.out htbσ) (by omega)
    have hst5 : Str σ ((wx.setCell ⟨rb, 0, none⟩ (.slice ar lr cr)).setCell ⟨rb, 1, none⟩ (.int .i64 fl)) m := (hst.set _ _ (by dsimp only; omega)).set _ _ (by dsimp only; omega)
    have hbw5 : But σ.b w ((wx.setCell ⟨rb, 0, none⟩ (.slice ar lr cr)).setCell ⟨rb, 1, none⟩ (.int .i64 fl)) := ((HK1.out.trans hbut).then_setNew _ _ (by have := HK1.out.size; dsimp only; omega)).then_setNew _ _ (by have := HK1.out.size; dsimp only; omega)
    have q0 := cell_at (i := 0) hrb3 rfl
    have q1 := cell_at (i := 1) hrb3 rfl
    have z0 := frozen_at (i := 0) hrb3
    have z1 := frozen_at (i := 1) hrb3
    rw [show dsts _ 5 = [15, 16, 17, 18, 4] from by kernel_rfl]
    simp only [List.map_cons, List.map_nil, puts, Act.put, e16, e18, e4, List.drop_succ_cons, List.drop_zero]
    generalize f 15 = f15
    generalize f 17 = f17
    clear hd e16 e18 e4 hoff hacc hby hby0 hsl hrb3 hk5 hst hbut hlm HC HS1 HK1
    go_wp2_with fail
    generalize (wx.setCell ⟨rb, 0, none⟩ (.slice ar lr cr)).setCell ⟨rb, 1, none⟩ (.int .i64 fl) = w5 at *
    clear q0 q1 z0 z1
    refine (papersKey_any σ tb m _ hst5 (by omega) hc5).mono ?_
    rintro e w6 ⟨v, m6, rfl, ⟨y1, rfl, hy1⟩, hm3, hm4, hst6, hb6⟩
    have hc6 := hb6.heap hc5 htbσ
    clear hst5 hc5
    go_wp2_with fail
    refine (papersKey_any σ tb m6 _ hst6 (by omega) hc6).mono ?_
    rintro e w7 ⟨v, m7, rfl, ⟨y2, rfl, hy2⟩, hm5, hm6, hst7, hb7⟩
    have hb57 := hb6.trans hb7
    have hsl7 := (hsl5.keep RMark.ok hb57).mono RMark.ok (G := fun _ => True) (fun _ _ => trivial)
    obtain ⟨ar', lr', cr', cs', heq, hcr', hcl', hsr'⟩ := PBy.sl (PBy.stays σ _ _ _ hb57 hby5)
    injection heq with h1 h2 h3
    subst h1 h2 h3
    have hsr7 := hsr'.mono RInt.ok (G := fun _ => True) (fun _ _ => trivial)
    have hrb7 := hb57.heap hrb5 hrb2
    have r0 := cell_at (i := 0) hrb7 rfl
    have r1 := cell_at (i := 1) hrb7 rfl
    have Hend := Lib.hid (show ∀ wx, All w7 wx → Below w.heap.size w wx from fun wx hw => ((hbw5.trans hb57).trans (Kept.all hw)).below (Nat.le_refl _) (fun k hk => by have := Hσ.out; omega))
    clear hst6 hc6 hst7 hb6 hb7 hsl5 hby5 hsr' hrb5 hrb7 hbw5 hb57 hm2 hm3 hm4 hm5 hm6 hszw hlc hrb1 hrb2 htbσ hlt1
    obtain ⟨er, her⟩ : ∃ er, er = ordE cs' fl xs y1 y2 := ⟨_, rfl⟩
    obtain ⟨ov, hov⟩ : ∃ ov, ov = ordV cs' fl xs y1 y2 := ⟨_, rfl⟩
    obtain ⟨k1, hk1e⟩ : ∃ k : Int, (if isKeyB y1 = true then (0 : Int) else 5) = k := ⟨_, rfl⟩
    obtain ⟨k2, hk2e⟩ : ∃ k : Int, (if isKeyB y2 = true then (0 : Int) else 5) = k := ⟨_, rfl⟩
    have HF := Lib.hid (show firstV [rulF cs' fl, marksF xs, k1, k2] = er from by rw [← hk1e, ← hk2e, her]; exact firstV_ord _ _ _ _ _)
    have HER := Lib.hid her
    have HOV := Lib.hid hov
    have HK1 := Lib.hid hk1e
    have HK2 := Lib.hid hk2e
    clear her hov hk1e hk2e
    go_wp2_with fail
    refine (order_any ar lr cr cs' fl am lm cm xs y1 y2 _ hsr7 (by omega) hcr hsl7 (by omega) hy1 hy2).mono ?_
    rintro e w8 ⟨rfl, hw8⟩
    rw [← HER.out, ← HOV.out]
    have s0 := hw8.cell r0 trivial
    have s1 := hw8.cell r1 trivial
    go_wp2_with fail
    refine (decideFault_any ar lr cr cs' fl _ (hsr7.keep RInt.ok hw8) (by omega) hcr).mono ?_
    rintro e w9 ⟨rfl, hw9⟩
    have hw79 := hw8.trans hw9
    go_wp2_with fail
    refine (marksFault_any am lm cm xs _ (hsl7.keep RMark.ok hw79) (by omega)).mono ?_
    rintro e w10 ⟨rfl, hw10⟩
    have hw710 := hw79.trans hw10
    go_wp2_with fail
    refine (keyFault_any y1 _ hy1).mono ?_
    rintro e w11 ⟨he11, hw11⟩
    rw [HK1.out] at he11
    subst he11
    have hw711 := hw710.trans hw11
    go_wp2_with fail
    refine (keyFault_any y2 _ hy2).mono ?_
    rintro e w12 ⟨he12, hw12⟩
    rw [HK2.out] at he12
    subst he12
    have hw712 := hw711.trans hw12
    go_wp2_with fail
    refine (errsV_any (some ⟨w12.heap.size, 0, none⟩) 4 4 [rulF cs' fl, marksF xs, k1, k2] _ (Sl.lit_ints _ (heap_at _ _ _ rfl) rfl trivial) (by omega)).mono ?_
    rintro e w' ⟨rfl, rfl⟩
    rw [HF.out]
    skip
    have t0 := hw712.cell r0 trivial
    have t1 := hw712.cell r1 trivial
    have hlt12 : rb < w12.heap.size := lt_of_cell t0
    clear hw8 hw9 hw10 hw11 hw12 hw79 hw710 hw711 s0 s1 HF
    by_cases h0 : er = 0
    · subst h0
      have hme : marksF xs = 0 := by
        have h1 := HER.out.symm
        by_cases g1 : rulF cs' fl = 0
        · by_cases g2 : marksF xs = 0
          · exact g2
          · rw [ordE_marks g1 g2] at h1; exact h1
        · rw [ordE_rules g1] at h1; exact absurd h1 g1
      have HOR := Lib.hid (show ov = ordR cs' (srtI (scs xs y1)) (srtI (scs xs y2)) y1 y2 from by rw [HOV.out]; exact ordV_ok HER.out.symm)
      have HME := Lib.hid hme
      clear hme
      go_wp2_with fail
      refine (orderOf_any ar lr cr cs' fl am lm cm xs y1 y2 _ (hsr7.keep RInt.ok (hw712.then_alloc _)) (by omega) (hsl7.keep RMark.ok (hw712.then_alloc _)) HME.out).mono ?_
      rintro e w13 ⟨rfl, hw13⟩
      rw [← HOR.out]
      go_wp2_with fail
      refine (talked_any _).mono ?_
      rintro e w14 ⟨rfl, hw14⟩
      go_wp2_with fail
      go_ret
      exact ⟨rfl, Hend.out _ (((hw712.then_alloc _).trans hw13).trans hw14)⟩
    · have hov0 : ov = 0 := by rw [HOV.out]; exact ordV_bad (by rw [← HER.out]; exact h0)
      subst hov0
      have hne : (er != 0) = true := by simpa using h0
      clear h0
      go_wp2_with fail
      refine (talked_any _).mono ?_
      rintro e w14 ⟨rfl, hw14⟩
      go_wp2_with fail
      go_ret
      exact ⟨rfl, Hend.out _ ((hw712.then_alloc _).trans hw14)⟩
end Go.Proofs.YtiecaedgphdfdaaGreatDoor
