/- The generator PairOf. -/
import Derived.Test.YtjbaijgdkkccbaaGreatDoorBy
namespace Go.Proofs.YtjbaijgdkkccbaaGreatDoor
open Go.RowKit

set_option maxRecDepth 100000 in
set_option maxHeartbeats 6400000 in
theorem pairOfS_any (σ : St) (n0 : Nat) (w0 : World) (a0 : Option Addr) (l0 c0 : Nat) (a1 : Option Addr) (l1 c1 : Nat) (a2 : Option Addr) (l2 c2 : Nat) (a3 : Option Addr) (l3 c3 : Nat) (a4 : Option Addr) (l4 c4 : Nat) (s : Set7) (hs0 : Str σ w0 n0) (hn : n0 ≤ 4611686018427100000) (his : SetIs (fun k => k ≠ σ.b) w0 a0 l0 a1 l1 a2 l2 a3 l3 a4 l4 s) (hl2 : l2 ≤ 1000) :
    Calls Tryz.prog 12 #[.pointer (some ⟨σ.b, 0, none⟩), .agg #[.slice a0 l0 c0, .slice a1 l1 c1, .slice a2 l2 c2, .slice a3 l3 c3, .slice a4 l4 c4, .int .i64 s.due, .int .i64 s.reply]] w0 (StPost σ n0 10 w0 PPrV) := by
  have hls := hs0.lt
  have hk1 : All w0 ((w0.alloc (.cells #[.slice a0 l0 c0, .slice a1 l1 c1, .slice a2 l2 c2, .slice a3 l3 c3, .slice a4 l4 c4, .int .i64 s.due, .int .i64 s.reply] 31)).alloc (.cells #[.string ⟨#[]⟩, .string ⟨#[]⟩] 39)) := (Kept.alloc _ _ _).then_alloc _
  have hblk := heap_old (.cells #[.string ⟨#[]⟩, .string ⟨#[]⟩] 39) (heap_at w0 (.cells #[.slice a0 l0 c0, .slice a1 l1 c1, .slice a2 l2 c2, .slice a3 l3 c3, .slice a4 l4 c4, .int .i64 s.due, .int .i64 s.reply] 31) _ rfl)
  have hrpk := heap_at (w0.alloc (.cells #[.slice a0 l0 c0, .slice a1 l1 c1, .slice a2 l2 c2, .slice a3 l3 c3, .slice a4 l4 c4, .int .i64 s.due, .int .i64 s.reply] 31)) (.cells #[.string ⟨#[]⟩, .string ⟨#[]⟩] 39) (w0.heap.size + 1) (by simp)
  have hs1 := hs0.keep hk1
  obtain ⟨xb, hxb⟩ : ∃ b, b = w0.heap.size := ⟨_, rfl⟩
  obtain ⟨rp, hrp⟩ : ∃ b, b = w0.heap.size + 1 := ⟨_, rfl⟩
  have HXBE := Lib.hid hxb
  have HRPE := Lib.hid hrp
  rw [← hxb] at hblk
  rw [← hrp] at hrpk
  have hxs : σ.b < xb := by omega
  have hrs : σ.b < rp := by omega
  have hrz : w0.heap.size ≤ rp := by omega
  have HXB := Lib.hid (show ∀ wx, But σ.b ((w0.alloc (.cells #[.slice a0 l0 c0, .slice a1 l1 c1, .slice a2 l2 c2, .slice a3 l3 c3, .slice a4 l4 c4, .int .i64 s.due, .int .i64 s.reply] 31)).alloc (.cells #[.string ⟨#[]⟩, .string ⟨#[]⟩] 39)) wx → SetAt xb (.slice a0 l0 c0) (.slice a1 l1 c1) (.slice a2 l2 c2) (.slice a3 l3 c3) (.slice a4 l4 c4) s.due s.reply wx from fun wx k => by
    have hb := k.heap hblk (by omega)
    exact ⟨cell_at (i := 0) hb rfl, cell_at (i := 1) hb rfl, cell_at (i := 2) hb rfl, cell_at (i := 3) hb rfl, cell_at (i := 4) hb rfl, cell_at (i := 5) hb rfl, cell_at (i := 6) hb rfl⟩)
  have HRP := Lib.hid (fun (wx : World) (k : But σ.b ((w0.alloc (.cells #[.slice a0 l0 c0, .slice a1 l1 c1, .slice a2 l2 c2, .slice a3 l3 c3, .slice a4 l4 c4, .int .i64 s.due, .int .i64 s.reply] 31)).alloc (.cells #[.string ⟨#[]⟩, .string ⟨#[]⟩] 39)) wx) => k.heap hrpk (by omega))
  have HIS := Lib.hid (fun (wx : World) (k : But σ.b ((w0.alloc (.cells #[.slice a0 l0 c0, .slice a1 l1 c1, .slice a2 l2 c2, .slice a3 l3 c3, .slice a4 l4 c4, .int .i64 s.due, .int .i64 s.reply] 31)).alloc (.cells #[.string ⟨#[]⟩, .string ⟨#[]⟩] 39)) wx) => (his.keep hk1.all).keep k)
  have HK1 := Lib.hid hk1
  have HN2 := Lib.hid his.pairs.len
  clear hk1 hblk hrpk hs0 his hxb hrp
  go_enter Tryz.func12, Tryz.ntmps12
  go_upto_region 1 with fail
  simp only [← HRPE.out]
  simp only [← HXBE.out]
  generalize (w0.alloc (.cells #[.slice a0 l0 c0, .slice a1 l1 c1, .slice a2 l2 c2, .slice a3 l3 c3, .slice a4 l4 c4, .int .i64 s.due, .int .i64 s.reply] 31)).alloc (.cells #[.string ⟨#[]⟩, .string ⟨#[]⟩] 39) = w1 at *
  obtain ⟨e0, e1, e2, e3, e4, e5, e6⟩ := HXB.out _ (Kept.refl _ _)
  have hl1 := hs1.lt
  have hb1 : But σ.b w1 w1 := Kept.refl _ _
  by_cases hz : l2 = 0
  case pos =>
    have hdz : ((l2 : Int) == 0) = true := by simp; omega
    clear hz
    go_wp2_with fail
    refine (some10_any σ n0 _ 2 2 [⟨#[112, 97]⟩, ⟨#[122, 122]⟩] _ (hs1.keep (Kept.alloc _ _ _)) (by omega) (Sl.lit_strs _ (heap_at w1 _ _ rfl) rfl (by omega)) (by omega) (by omega)).mono ?_
    rintro e w5 ⟨v, n5, rfl, ⟨pp, rfl, -, hz1⟩, hA5, hB5, hs5, hb5'⟩
    have hb5 := (hb1.then_alloc _).trans hb5'
    clear hb5'
    have hl5 := hs5.lt
    have hz5 := hb5.size
    go_wp2_with fail
    refine (some10_any σ n5 _ 2 2 [⟨#[122, 101, 100]⟩, ⟨#[98, 111, 98]⟩] _ (hs5.keep (Kept.alloc _ _ _)) (by omega) (Sl.lit_strs _ (heap_at w5 _ _ rfl) rfl (by omega)) (by omega) (by omega)).mono ?_
    rintro e w6 ⟨v, n6, rfl, ⟨pq, rfl, -, hz2⟩, hA6, hB6, hs6, hb6'⟩
    have hb6 := (hb5.then_alloc _).trans hb6'
    clear hb6' hb5 hs5
    have hl6 := hs6.lt
    have hp := HRP.out _ hb6
    have c0 := cell_at (i := 0) hp rfl
    have c1 := cell_at (i := 1) hp rfl
    have z0 := frozen_at (i := 0) hp
    have z1 := frozen_at (i := 1) hp
    have hp3' := heap_setCell_at _ rp 1 (.string pq) _ _ _ (heap_setCell_at w6 rp 0 (.string pp) _ _ _ hp)
    have hp3 : ((w6.setCell ⟨rp, 0, none⟩ (.string pp)).setCell ⟨rp, 1, none⟩ (.string pq)).heap[rp]? = some (.cells #[.string pp, .string pq] 39 (0, 0)) := by simpa using hp3'
    have hs3 : Str σ ((w6.setCell ⟨rp, 0, none⟩ (.string pp)).setCell ⟨rp, 1, none⟩ (.string pq)) n6 := (hs6.set _ _ (by dsimp only; omega)).set _ _ (by dsimp only; omega)
    have hb3 : But σ.b w0 ((w6.setCell ⟨rp, 0, none⟩ (.string pp)).setCell ⟨rp, 1, none⟩ (.string pq)) := ((HK1.out.all.trans hb6).then_setNew _ _ hrz).then_setNew _ _ hrz
    have q0 := cell_at (i := 0) hp3 rfl
    have q1 := cell_at (i := 1) hp3 rfl
    have HF3 := Lib.hid (show StPost σ n0 10 w0 PPrV (.returned (.agg #[.string pp, .string pq])) ((w6.setCell ⟨rp, 0, none⟩ (.string pp)).setCell ⟨rp, 1, none⟩ (.string pq)) from ⟨_, n6, rfl, ⟨Pair2.mk pp pq hz1 hz2, rfl⟩, by omega, by omega, hs3, hb3⟩)
    clear hp hp3 hp3' hs3 hb3
    go_wp2_with fail
    refine bodyPost_ret (v := .agg #[.string pp, .string pq]) ?_ rfl HF3.out
    simp [results, Tryz.results12, go_sem, q0, q1]
  case neg =>
    have hdz : ((l2 : Int) == 0) = false := by simp; omega
    have hl2p : 0 < l2 := by omega
    clear hz
    go_wp2_with fail
    refine (flip_any σ n0 10 _ hs1 (by omega) (by omega) (by omega)).mono ?_
    rintro e w2 ⟨v, n2, rfl, ⟨b, rfl⟩, hA2, hB2, hs2, hb2'⟩
    have hb2 : But σ.b w1 w2 := hb2'
    clear hb2' hs1 hb1
    have hl2s := hs2.lt
    cases b with
    | true =>
      go_wp2_with fail
      refine (some10_any σ n2 _ 2 2 [⟨#[112, 97]⟩, ⟨#[122, 122]⟩] _ (hs2.keep (Kept.alloc _ _ _)) (by omega) (Sl.lit_strs _ (heap_at w2 _ _ rfl) rfl (by omega)) (by omega) (by omega)).mono ?_
      rintro e w5 ⟨v, n5, rfl, ⟨pp, rfl, -, hz1⟩, hA5, hB5, hs5, hb5'⟩
      have hb5 := (hb2.then_alloc _).trans hb5'
      clear hb5'
      have hl5 := hs5.lt
      have hz5 := hb5.size
      go_wp2_with fail
      refine (some10_any σ n5 _ 2 2 [⟨#[122, 101, 100]⟩, ⟨#[98, 111, 98]⟩] _ (hs5.keep (Kept.alloc _ _ _)) (by omega) (Sl.lit_strs _ (heap_at w5 _ _ rfl) rfl (by omega)) (by omega) (by omega)).mono ?_
      rintro e w6 ⟨v, n6, rfl, ⟨pq, rfl, -, hz2⟩, hA6, hB6, hs6, hb6'⟩
      have hb6 := (hb5.then_alloc _).trans hb6'
      clear hb6' hb5 hs5
      have hl6 := hs6.lt
      have hp := HRP.out _ hb6
      have c0 := cell_at (i := 0) hp rfl
      have c1 := cell_at (i := 1) hp rfl
      have z0 := frozen_at (i := 0) hp
      have z1 := frozen_at (i := 1) hp
      have hp3' := heap_setCell_at _ rp 1 (.string pq) _ _ _ (heap_setCell_at w6 rp 0 (.string pp) _ _ _ hp)
      have hp3 : ((w6.setCell ⟨rp, 0, none⟩ (.string pp)).setCell ⟨rp, 1, none⟩ (.string pq)).heap[rp]? = some (.cells #[.string pp, .string pq] 39 (0, 0)) := by simpa using hp3'
      have hs3 : Str σ ((w6.setCell ⟨rp, 0, none⟩ (.string pp)).setCell ⟨rp, 1, none⟩ (.string pq)) n6 := (hs6.set _ _ (by dsimp only; omega)).set _ _ (by dsimp only; omega)
      have hb3 : But σ.b w0 ((w6.setCell ⟨rp, 0, none⟩ (.string pp)).setCell ⟨rp, 1, none⟩ (.string pq)) := ((HK1.out.all.trans hb6).then_setNew _ _ hrz).then_setNew _ _ hrz
      have q0 := cell_at (i := 0) hp3 rfl
      have q1 := cell_at (i := 1) hp3 rfl
      have HF3 := Lib.hid (show StPost σ n0 10 w0 PPrV (.returned (.agg #[.string pp, .string pq])) ((w6.setCell ⟨rp, 0, none⟩ (.string pp)).setCell ⟨rp, 1, none⟩ (.string pq)) from ⟨_, n6, rfl, ⟨Pair2.mk pp pq hz1 hz2, rfl⟩, by omega, by omega, hs3, hb3⟩)
      clear hp hp3 hp3' hs3 hb3
      go_wp2_with fail
      refine bodyPost_ret (v := .agg #[.string pp, .string pq]) ?_ rfl HF3.out
      simp [results, Tryz.results12, go_sem, q0, q1]
    | false =>
      clear e0 e1 e2 e3 e4 e5 e6
      go_wp2_with fail
      have HST := Lib.hid hs2
      clear hs2
      refine wp_region_inv 9 (by kernel_rfl) (by kernel_rfl) (by kernel_rfl) (GStr 1 σ n2 w2)
        (DL [PIs (.pointer (some ⟨xb, 2, none⟩)), PIs (.slice a2 l2 c2), PIs (.pointer (some ⟨σ.b, 0, none⟩)), PIs (.pointer (some ⟨xb, 2, none⟩)), PIs (.slice a2 l2 c2), PIs (.int .i64 l2), PNum (fun r => 0 ≤ r ∧ r < l2), PAtP a2 l2, PPrV]) (fun w w' => But σ.b w w')
        (DL.keep (by simp only [List.forall_mem_cons, List.not_mem_nil, false_implies, implies_true, and_true]; exact ⟨PIs.stays _ _, PIs.stays _ _, PIs.stays _ _, PIs.stays _ _, PIs.stays _ _, PIs.stays _ _, PNum.stays _ _, PAtP.stays _ _ _, PPrV.stays _⟩)) ?_ ?_ ?_
      · exact ⟨n2, Nat.le_refl _, by omega, HST.out.keep (Kept.drew _ _), Kept.drew _ _⟩
      · intro i o t ho hd hi k' a' wx hk hg hdf hts hoth hdeps
        obtain ⟨m, hm1, hm2, hst, hbut⟩ := hg
        have hlt9 := hst.lt
        have hszx := hbut.size
        obtain ⟨e0', e1', e2', e3', e4', e5', e6'⟩ := HXB.out wx (hb2.trans hbut)
        have hz : i = 0 ∨ i = 1 ∨ i = 2 ∨ i = 3 ∨ i = 4 ∨ i = 5 ∨ i = 6 ∨ i = 7 ∨ i = 8 := by omega
        rcases hz with rfl | rfl | rfl | rfl | rfl | rfl | rfl | rfl | rfl
        · obtain rfl := Option.some.inj ho
          obtain rfl := Option.some.inj hd
          have e0 : a'.tmps.getD 3 undef = (.pointer (some ⟨xb, 0, none⟩)) := tmp_of ((hoth 3 (by decide)).trans rfl)
          clear hoth hdeps hdf hts ho
          refine wp_via (fun K' hK => ?_)
          have HK := Lib.hid hK
          clear hK
          go_simp
          exact HK.out _ _ ⟨_, rfl, GStr.same hm1 hm2 hst hbut, Kept.refl _ _, rfl⟩
        · obtain rfl := Option.some.inj ho
          obtain rfl := Option.some.inj hd
          have e0 : a'.tmps.getD 20 undef = (.pointer (some ⟨xb, 2, none⟩)) := hdeps 0 (by decide) 20 rfl
          clear hoth hdeps hdf hts ho
          refine wp_via (fun K' hK => ?_)
          have HK := Lib.hid hK
          clear hK
          go_simp
          exact HK.out _ _ ⟨_, rfl, GStr.same hm1 hm2 hst hbut, Kept.refl _ _, rfl⟩
        · obtain rfl := Option.some.inj ho
          obtain rfl := Option.some.inj hd
          have e0 : a'.tmps.getD 0 undef = (.pointer (some ⟨σ.b, 0, none⟩)) := tmp_of ((hoth 0 (by decide)).trans rfl)
          clear hoth hdeps hdf hts ho
          refine wp_via (fun K' hK => ?_)
          have HK := Lib.hid hK
          clear hK
          go_simp
          exact HK.out _ _ ⟨_, rfl, GStr.same hm1 hm2 hst hbut, Kept.refl _ _, rfl⟩
        · obtain rfl := Option.some.inj ho
          obtain rfl := Option.some.inj hd
          have e0 : a'.tmps.getD 3 undef = (.pointer (some ⟨xb, 0, none⟩)) := tmp_of ((hoth 3 (by decide)).trans rfl)
          clear hoth hdeps hdf hts ho
          refine wp_via (fun K' hK => ?_)
          have HK := Lib.hid hK
          clear hK
          go_simp
          exact HK.out _ _ ⟨_, rfl, GStr.same hm1 hm2 hst hbut, Kept.refl _ _, rfl⟩
        · obtain rfl := Option.some.inj ho
          obtain rfl := Option.some.inj hd
          have e0 : a'.tmps.getD 23 undef = (.pointer (some ⟨xb, 2, none⟩)) := hdeps 3 (by decide) 23 rfl
          clear hoth hdeps hdf hts ho
          refine wp_via (fun K' hK => ?_)
          have HK := Lib.hid hK
          clear hK
          go_simp
          exact HK.out _ _ ⟨_, rfl, GStr.same hm1 hm2 hst hbut, Kept.refl _ _, rfl⟩
        · obtain rfl := Option.some.inj ho
          obtain rfl := Option.some.inj hd
          have e0 : a'.tmps.getD 24 undef = (.slice a2 l2 c2) := hdeps 4 (by decide) 24 rfl
          clear hoth hdeps hdf hts ho
          refine wp_via (fun K' hK => ?_)
          have HK := Lib.hid hK
          clear hK
          go_simp
          exact HK.out _ _ ⟨_, rfl, GStr.same hm1 hm2 hst hbut, Kept.refl _ _, rfl⟩
        · obtain rfl := Option.some.inj ho
          obtain rfl := Option.some.inj hd
          have e0 : a'.tmps.getD 22 undef = (.pointer (some ⟨σ.b, 0, none⟩)) := hdeps 2 (by decide) 22 rfl
          have e1 : a'.tmps.getD 25 undef = .int .i64 l2 := hdeps 5 (by decide) 25 rfl
          clear hoth hdeps hdf hts ho
          refine wp_via (fun K' hK => ?_)
          have HK := Lib.hid hK
          clear hK
          go_simp
          refine (next_any σ m (l2 : Int) _ hst (by omega) (by omega) (by omega)).mono ?_
          rintro e w2x ⟨v, m2, rfl, ⟨r, rfl, hr1, hr2⟩, hm3, hm4, hst2, hb2x⟩
          exact HK.out _ _ ⟨_, rfl, GStr.call hm1 hm2 hbut hm3 (by omega) hst2 hb2x, hb2x, ⟨r, rfl, hr1, hr2⟩⟩
        · obtain rfl := Option.some.inj ho
          obtain rfl := Option.some.inj hd
          have e0 : a'.tmps.getD 21 undef = (.slice a2 l2 c2) := hdeps 1 (by decide) 21 rfl
          obtain ⟨r, e1, hr1, hr2⟩ : PNum (fun r => 0 ≤ r ∧ r < l2) (a'.tmps.getD 26 undef) wx := hdeps 6 (by decide) 26 rfl
          obtain ⟨ri, rfl⟩ := Int.eq_ofNat_of_zero_le hr1
          have hri : ri < l2 := by omega
          obtain ⟨b2, o2, ha2, -⟩ := (HIS.out wx (hb2.trans hbut)).pairs.2 hl2p
          rw [ha2] at e0
          clear hoth hdeps hdf hts ho
          refine wp_via (fun K' hK => ?_)
          have HK := Lib.hid hK
          clear hK
          go_simp
          exact HK.out _ _ ⟨_, rfl, GStr.same hm1 hm2 hst hbut, Kept.refl _ _, ⟨b2, o2, ri, ha2, hri, rfl⟩⟩
        · obtain rfl := Option.some.inj ho
          obtain rfl := Option.some.inj hd
          obtain ⟨b2, o2, ri, ha2, hri, e0⟩ : PAtP a2 l2 (a'.tmps.getD 27 undef) wx := hdeps 7 (by decide) 27 rfl
          obtain ⟨b3, o3, y, ha3, -, d0, d1, -, -, -⟩ := (HIS.out wx (hb2.trans hbut)).pairs.atPair hri
          rw [ha2] at ha3
          injection ha3 with ha3
          injection ha3 with h1 h2 _
          subst h1 h2
          clear hoth hdeps hdf hts ho
          refine wp_via (fun K' hK => ?_)
          have HK := Lib.hid hK
          clear hK
          go_simp
          exact HK.out _ _ ⟨_, rfl, GStr.same hm1 hm2 hst hbut, Kept.refl _ _, ⟨y, rfl⟩⟩
      · intro wx f hg hd
        obtain ⟨m, hm1, hm2, hst, hbut⟩ := hg
        obtain ⟨y, e28⟩ : PPrV (f 28) wx := hd 8 28 (by decide) rfl
        rw [show dsts _ 9 = [20, 21, 22, 23, 24, 25, 26, 27, 28] from by kernel_rfl]
        simp only [List.map_cons, List.map_nil, puts, Act.put, e28, List.drop_succ_cons, List.drop_zero]
        generalize f 20 = f20
        generalize f 21 = f21
        generalize f 22 = f22
        generalize f 23 = f23
        generalize f 24 = f24
        generalize f 25 = f25
        generalize f 26 = f26
        generalize f 27 = f27
        clear hd e28
        simp only [List.setIfInBounds_toArray, List.set_cons_zero, List.set_cons_succ]
        have hbx := hb2.trans hbut
        have hlx := hst.lt
        have hy1 := y.h1
        have hy2 := y.h2
        have hp := HRP.out _ hbx
        have c0 := cell_at (i := 0) hp rfl
        have c1 := cell_at (i := 1) hp rfl
        have z0 := frozen_at (i := 0) hp
        have z1 := frozen_at (i := 1) hp
        have hp3' := heap_setCell_at _ rp 1 (.string y.person) _ _ _ (heap_setCell_at wx rp 0 (.string y.paper) _ _ _ hp)
        have hp3 : ((wx.setCell ⟨rp, 0, none⟩ (.string y.paper)).setCell ⟨rp, 1, none⟩ (.string y.person)).heap[rp]? = some (.cells #[.string y.paper, .string y.person] 39 (0, 0)) := by simpa using hp3'
        have hs3 : Str σ ((wx.setCell ⟨rp, 0, none⟩ (.string y.paper)).setCell ⟨rp, 1, none⟩ (.string y.person)) m := (hst.set _ _ (by dsimp only; omega)).set _ _ (by dsimp only; omega)
        have hb3 : But σ.b w0 ((wx.setCell ⟨rp, 0, none⟩ (.string y.paper)).setCell ⟨rp, 1, none⟩ (.string y.person)) := ((HK1.out.all.trans hbx).then_setNew _ _ hrz).then_setNew _ _ hrz
        have q0 := cell_at (i := 0) hp3 rfl
        have q1 := cell_at (i := 1) hp3 rfl
        have HF3 := Lib.hid (show StPost σ n0 10 w0 PPrV (.returned (.agg #[.string y.paper, .string y.person])) ((wx.setCell ⟨rp, 0, none⟩ (.string y.paper)).setCell ⟨rp, 1, none⟩ (.string y.person)) from ⟨_, m, rfl, ⟨Pair2.mk y.paper y.person hy1 hy2, rfl⟩, by omega, by omega, hs3, hb3⟩)
        clear hp hp3 hp3' hs3 hb3
        go_wp2_with fail
        refine bodyPost_ret (v := .agg #[.string y.paper, .string y.person]) ?_ rfl HF3.out
        simp [results, Tryz.results12, go_sem, q0, q1]
end Go.Proofs.YtjbaijgdkkccbaaGreatDoor
