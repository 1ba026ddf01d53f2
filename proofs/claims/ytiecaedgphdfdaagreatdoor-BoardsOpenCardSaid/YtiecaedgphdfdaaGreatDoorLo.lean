/- The law BoardsOpen, walked. -/
import Derived.Test.YtiecaedgphdfdaaGreatDoorBm
import Derived.Test.YtiecaedgphdfdaaGreatDoorBk
import Derived.Test.YtiecaedgphdfdaaGreatDoorBg
import Derived.Test.YtiecaedgphdfdaaGreatDoorRk
import Derived.Test.YtiecaedgphdfdaaGreatDoorWb
namespace Go.Proofs.YtiecaedgphdfdaaGreatDoor
open Go.RowKit

/-- A place at which a short string lies. -/
def PAt (σ : St) (v : Value) (w : World) : Prop := ∃ b j y, v = .pointer (some ⟨b, j, none⟩) ∧ b ≠ σ.b ∧ w.cell? ⟨b, j, none⟩ = some (.string y) ∧ y.size ≤ 1000000
theorem PAt.stays (σ : St) : Stays (fun w w' => But σ.b w w') (PAt σ) := fun _ _ _ k ⟨b, j, y, h1, h2, h3, h4⟩ => ⟨b, j, y, h1, h2, k.cell h3 h2, h4⟩
theorem firstV_open (b : Board4) (p : ByteArray) (n : Int) : firstV [boardF b, if isKeyB p = true then 0 else 5, if n < 0 ∨ 5761440 ≤ n then 1 else 0] = openE b p n := by
  unfold openE
  by_cases h1 : boardF b = 0
  · rw [h1]
    cases h2 : isKeyB p
    · simp [firstV]
    · by_cases h3 : n < 0 ∨ 5761440 ≤ n <;> simp [firstV, h3]
  · simp [firstV, h1]
theorem firstV_may (b : Board4) (p q : ByteArray) (n : Int) : firstV [boardF b, if isKeyB p = true then 0 else 5, if isKeyB q = true then 0 else 5, if n < 0 ∨ 5761440 ≤ n then 1 else 0] = mayE b p q n := by
  unfold mayE
  by_cases h1 : boardF b = 0
  · rw [h1]
    cases h2 : isKeyB p
    · simp [firstV]
    · cases h4 : isKeyB q
      · simp [firstV]
      · by_cases h3 : n < 0 ∨ 5761440 ≤ n <;> simp [firstV, h3]
  · simp [firstV, h1]

set_option maxRecDepth 100000 in
set_option maxHeartbeats 12800000 in
theorem boardsOpen_walk (a : Option Addr) (len cap : Nat) (w : World) (h : IsRow w a len cap) :
    Calls Tryz.prog 6 #[.slice a len cap] w fun e w' => e = .returned (.bool true) ∧ Below w.heap.size w w' := by
  have hst := h.start
  obtain ⟨σ, hσ⟩ : ∃ σ : St, σ = ⟨w.heap.size, a, len, cap⟩ := ⟨_, rfl⟩
  have hσb : σ.b = w.heap.size := by rw [hσ]
  rw [← hσ] at hst
  have Hσ := Lib.hid hσb
  have hptr : (Value.pointer (some ⟨w.heap.size, 0, none⟩)) = Value.pointer (some ⟨σ.b, 0, none⟩) := by rw [hσb]
  have Hptr := Lib.hid hptr
  have hk0 : Kept (fun k => k ≠ σ.b) w (w.alloc (.cells #[.slice a len cap, .int .i64 0] 25)) := Kept.alloc _ _ _
  clear hσ hσb hptr h
  go_enter Tryz.func6, Tryz.ntmps6
  go_wp2_with fail
  simp only [Hptr.out]
  generalize w.alloc (.cells #[.slice a len cap, .int .i64 0] 25) = w0 at *
  have hlt0 := hst.lt
  refine (board_any σ 0 _ hst (by omega)).mono ?_
  rintro e w1 ⟨v, n1, rfl, ⟨v0, v1, v2, v3, b, rfl, m0, m1, m2, m3, A0, A1, A2, A3, -⟩, -, hn2, hs1, hb1⟩
  have hk1 := hk0.trans hb1
  obtain ⟨a0, c0, rfl, hc0⟩ := A0.form
  obtain ⟨a0', c0', hv0, S0⟩ := A0.sl RPair.ok (by decide) (G := fun k => k ≠ σ.b) (fun _ h => h.elim) (fun k hk => by have := (A0.lt k hk).1; omega)
  obtain ⟨l0, hl0⟩ : ∃ l, l = b.pairs.length := ⟨_, rfl⟩
  rw [← hl0] at S0 hv0 m0 hc0 ⊢
  injection hv0 with q1 q2 q3
  subst q1 q3
  clear q2 hl0 A0
  obtain ⟨a1, c1, rfl, hc1⟩ := A1.form
  obtain ⟨a1', c1', hv1, S1⟩ := A1.sl RPair.ok (by decide) (G := fun k => k ≠ σ.b) (fun _ h => h.elim) (fun k hk => by have := (A1.lt k hk).1; omega)
  obtain ⟨l1, hl1⟩ : ∃ l, l = b.barred.length := ⟨_, rfl⟩
  rw [← hl1] at S1 hv1 m1 hc1 ⊢
  injection hv1 with q1 q2 q3
  subst q1 q3
  clear q2 hl1 A1
  obtain ⟨a2, c2, rfl, hc2⟩ := A2.form
  obtain ⟨a2', c2', hv2, S2⟩ := A2.sl RStr.ok (by decide) (G := fun k => k ≠ σ.b) (fun _ h => h.elim) (fun k hk => by have := (A2.lt k hk).1; omega)
  obtain ⟨l2, hl2⟩ : ∃ l, l = b.heads.length := ⟨_, rfl⟩
  rw [← hl2] at S2 hv2 m2 hc2 ⊢
  injection hv2 with q1 q2 q3
  subst q1 q3
  clear q2 hl2 A2
  obtain ⟨a3, c3, rfl, hc3⟩ := A3.form
  obtain ⟨a3', c3', hv3, S3⟩ := A3.sl RTurn.ok (by decide) (G := fun k => k ≠ σ.b) (fun _ h => h.elim) (fun k hk => by have := (A3.lt k hk).1; omega)
  obtain ⟨l3, hl3⟩ : ∃ l, l = b.turns.length := ⟨_, rfl⟩
  rw [← hl3] at S3 hv3 m3 hc3 ⊢
  injection hv3 with q1 q2 q3
  subst q1 q3
  clear q2 hl3 A3
  have HBI1 := Lib.hid (fun (wx : World) (k : But σ.b w1 wx) => (⟨(S0.keep RPair.ok k).mono RPair.ok (fun _ _ => trivial), (S1.keep RPair.ok k).mono RPair.ok (fun _ _ => trivial), (S2.keep RStr.ok k).mono RStr.ok (fun _ _ => trivial), (S3.keep RTurn.ok k).mono RTurn.ok (fun _ _ => trivial), by omega, by omega, by omega, by omega⟩ : BoardIs wx a0 l0 a1 l1 a2 l2 a3 l3 b))
  have hkb : But σ.b w1 (w1.alloc (.cells #[.slice a0 l0 c0, .slice a1 l1 c1, .slice a2 l2 c2, .slice a3 l3 c3] 85)) := Kept.alloc _ _ _
  have hbb := heap_at w1 (.cells #[.slice a0 l0 c0, .slice a1 l1 c1, .slice a2 l2 c2, .slice a3 l3 c3] 85) _ rfl
  have hs2 := hs1.keep (Kept.alloc (fun _ => True) w1 (.cells #[.slice a0 l0 c0, .slice a1 l1 c1, .slice a2 l2 c2, .slice a3 l3 c3] 85))
  have hlt1 := hs1.lt
  obtain ⟨bb, hbbe⟩ : ∃ b, b = w1.heap.size := ⟨_, rfl⟩
  have Hbb := Lib.hid hbbe
  rw [← hbbe] at hbb
  have hσb : σ.b < bb := by omega
  have hk2 := hk1.trans hkb
  clear hst hk0 hb1 hk1 hs1 hbbe S0 S1 S2 S3 hlt0 hlt1 hc0 hc1 hc2
  go_wp2_with fail
  simp only [← Hbb.out]
  clear Hbb
  generalize w1.alloc (.cells #[.slice a0 l0 c0, .slice a1 l1 c1, .slice a2 l2 c2, .slice a3 l3 c3] 85) = w2 at *
  have HC := Lib.hid hbb
  have HK2 := Lib.hid hk2
  have HS2 := Lib.hid hs2
  have HKB := Lib.hid hkb
  have hlb : bb < w2.heap.size := (Array.getElem?_eq_some_iff.1 hbb).1
  clear hbb hk2 hs2 hkb
  refine wp_region_inv 11 (by kernel_rfl) (by kernel_rfl) (by kernel_rfl) (GStr 10 σ n1 w2)
    (DL [PStrs σ [⟨#[112, 97]⟩, ⟨#[112, 98]⟩, ⟨#[112, 99]⟩, ⟨#[65]⟩], PIs (.pointer (some ⟨σ.b, 0, none⟩)), PRow σ [0, 0, 1, 2, 3], PNum (fun r => 0 ≤ r ∧ r < 4), PAt σ, PStr (fun r => r.size ≤ 1000000), PIs (.pointer (some ⟨σ.b, 0, none⟩)), PStr (fun r => r.size ≤ 1000000), PIs (.pointer (some ⟨σ.b, 0, none⟩)), PRow σ [0, 5, 10, 15, 50, 200, -1, 5761440], PNum (fun _ => True)]) (fun w w' => But σ.b w w')
    (DL.keep (by simp only [List.forall_mem_cons, List.not_mem_nil, false_implies, implies_true, and_true]; exact ⟨PStrs.stays _ _, PIs.stays _ _, PRow.stays _ _, PNum.stays _ _, PAt.stays _, PStr.stays _ _, PIs.stays _ _, PStr.stays _ _, PIs.stays _ _, PRow.stays _ _, PNum.stays _ _⟩)) ?_ ?_ ?_
  · exact ⟨n1, Nat.le_refl _, by omega, HS2.out.keep (Kept.drew _ _), Kept.drew _ _⟩
  · intro i o t ho hd hi k a' wx hk hg hdf hts hoth hdeps
    obtain ⟨m, hm1, hm2, hst, hbut⟩ := hg
    have hlt := hst.lt
    have h5 : i = 0 ∨ i = 1 ∨ i = 2 ∨ i = 3 ∨ i = 4 ∨ i = 5 ∨ i = 6 ∨ i = 7 ∨ i = 8 ∨ i = 9 ∨ i = 10 := by omega
    rcases h5 with rfl | rfl | rfl | rfl | rfl | rfl | rfl | rfl | rfl | rfl | rfl
    · obtain rfl := Option.some.inj ho
      obtain rfl := Option.some.inj hd
      clear hoth hdeps hdf hts ho
      refine wp_via (fun K' hK => ?_)
      have HK := Lib.hid hK
      clear hK
      go_simp
      exact HK.out _ _ ⟨_, rfl, GStr.alloc _ hm1 hm2 hst hbut, Kept.alloc _ _ _, ⟨wx.heap.size, rfl, Nat.ne_of_gt hlt, heap_at _ _ _ rfl⟩⟩
    · obtain rfl := Option.some.inj ho
      obtain rfl := Option.some.inj hd
      have e0 : a'.tmps.getD 3 undef = (.pointer (some ⟨σ.b, 0, none⟩)) := tmp_of ((hoth 3 (by decide)).trans rfl)
      clear hoth hdeps hdf hts ho
      refine wp_via (fun K' hK => ?_)
      have HK := Lib.hid hK
      clear hK
      go_simp
      exact HK.out _ _ ⟨_, rfl, GStr.same hm1 hm2 hst hbut, Kept.refl _ _, rfl⟩
    · obtain rfl := Option.some.inj ho
      obtain rfl := Option.some.inj hd
      clear hoth hdeps hdf hts ho
      refine wp_via (fun K' hK => ?_)
      have HK := Lib.hid hK
      clear hK
      go_simp
      exact HK.out _ _ ⟨_, rfl, GStr.alloc _ hm1 hm2 hst hbut, Kept.alloc _ _ _, ⟨wx.heap.size, rfl, Nat.ne_of_gt hlt, heap_at _ _ _ rfl⟩⟩
    · obtain rfl := Option.some.inj ho
      obtain rfl := Option.some.inj hd
      have ep : a'.tmps.getD 21 undef = (.pointer (some ⟨σ.b, 0, none⟩)) := hdeps 1 (by decide) 21 rfl
      obtain ⟨br, er, hrn, hr⟩ : PRow σ [0, 0, 1, 2, 3] (a'.tmps.getD 22 undef) wx := hdeps 2 (by decide) 22 rfl
      replace er : a'.tmps.getD 22 undef = .slice (some ⟨br, 0, none⟩) 5 5 := er
      clear hoth hdeps hdf hts ho
      refine wp_via (fun K' hK => ?_)
      have HK := Lib.hid hK
      clear hK
      go_simp
      refine (pick_any σ m _ _ _ [0, 0, 1, 2, 3] _ hst (by omega) (Sl.lit_ints _ hr rfl hrn) (by simp) (by simp)).mono ?_
      rintro e w2' ⟨v, m2, rfl, ⟨r, rfl, hr2⟩, hm3, hm4, hst2, hb2⟩
      exact HK.out _ _ ⟨_, rfl, GStr.call hm1 hm2 hbut hm3 (by omega) hst2 hb2, hb2, ⟨r, rfl, by simp at hr2; omega⟩⟩
    · obtain rfl := Option.some.inj ho
      obtain rfl := Option.some.inj hd
      obtain ⟨br, er, hrn, hr⟩ : PStrs σ [⟨#[112, 97]⟩, ⟨#[112, 98]⟩, ⟨#[112, 99]⟩, ⟨#[65]⟩] (a'.tmps.getD 20 undef) wx := hdeps 0 (by decide) 20 rfl
      replace er : a'.tmps.getD 20 undef = .slice (some ⟨br, 0, none⟩) 4 4 := er
      obtain ⟨r, e23, hr1, hr2⟩ : PNum (fun r => 0 ≤ r ∧ r < 4) (a'.tmps.getD 23 undef) wx := hdeps 3 (by decide) 23 rfl
      obtain ⟨j, rfl⟩ := Int.eq_ofNat_of_zero_le hr1
      have hj : j < 4 := by omega
      obtain ⟨y, hcy, hyz⟩ : ∃ y : ByteArray, wx.cell? ⟨br, j, none⟩ = some (.string y) ∧ y.size ≤ 1000000 := by
        obtain ⟨b', off', y, ha', -, hcy, hyz, -, -, -⟩ := (Sl.lit_strs (F := fun _ => True) [⟨#[112, 97]⟩, ⟨#[112, 98]⟩, ⟨#[112, 99]⟩, ⟨#[65]⟩] hr rfl trivial).atStr (k := j) (by simp; omega)
        simp only [Option.some.injEq, Addr.mk.injEq] at ha'
        obtain ⟨rfl, rfl, -⟩ := ha'
        exact ⟨y, by simpa using hcy, hyz⟩
      clear hr
      clear hoth hdeps hdf hts ho
      refine wp_via (fun K' hK => ?_)
      have HK := Lib.hid hK
      clear hK
      go_simp
      exact HK.out _ _ ⟨_, rfl, GStr.same hm1 hm2 hst hbut, Kept.refl _ _, ⟨br, j, y, rfl, hrn, hcy, hyz⟩⟩
    · obtain rfl := Option.some.inj ho
      obtain rfl := Option.some.inj hd
      obtain ⟨b', j, y, e24, hbn, hu, hyz⟩ : PAt σ (a'.tmps.getD 24 undef) wx := hdeps 4 (by decide) 24 rfl
      clear hoth hdeps hdf hts ho
      refine wp_via (fun K' hK => ?_)
      have HK := Lib.hid hK
      clear hK
      go_simp
      exact HK.out _ _ ⟨_, rfl, GStr.same hm1 hm2 hst hbut, Kept.refl _ _, ⟨y, rfl, hyz⟩⟩
    · obtain rfl := Option.some.inj ho
      obtain rfl := Option.some.inj hd
      have e0 : a'.tmps.getD 3 undef = (.pointer (some ⟨σ.b, 0, none⟩)) := tmp_of ((hoth 3 (by decide)).trans rfl)
      clear hoth hdeps hdf hts ho
      refine wp_via (fun K' hK => ?_)
      have HK := Lib.hid hK
      clear hK
      go_simp
      exact HK.out _ _ ⟨_, rfl, GStr.same hm1 hm2 hst hbut, Kept.refl _ _, rfl⟩
    · obtain rfl := Option.some.inj ho
      obtain rfl := Option.some.inj hd
      have e0 : a'.tmps.getD 26 undef = (.pointer (some ⟨σ.b, 0, none⟩)) := hdeps 6 (by decide) 26 rfl
      clear hoth hdeps hdf hts ho
      refine wp_via (fun K' hK => ?_)
      have HK := Lib.hid hK
      clear hK
      go_simp
      refine (who_any σ m _ hst (by omega)).mono ?_
      rintro e w2' ⟨v, m2, rfl, hq, hm3, hm4, hst2, hb2⟩
      exact HK.out _ _ ⟨_, rfl, GStr.call hm1 hm2 hbut hm3 (by omega) hst2 hb2, hb2, hq⟩
    · obtain rfl := Option.some.inj ho
      obtain rfl := Option.some.inj hd
      have e0 : a'.tmps.getD 3 undef = (.pointer (some ⟨σ.b, 0, none⟩)) := tmp_of ((hoth 3 (by decide)).trans rfl)
      clear hoth hdeps hdf hts ho
      refine wp_via (fun K' hK => ?_)
      have HK := Lib.hid hK
      clear hK
      go_simp
      exact HK.out _ _ ⟨_, rfl, GStr.same hm1 hm2 hst hbut, Kept.refl _ _, rfl⟩
    · obtain rfl := Option.some.inj ho
      obtain rfl := Option.some.inj hd
      clear hoth hdeps hdf hts ho
      refine wp_via (fun K' hK => ?_)
      have HK := Lib.hid hK
      clear hK
      go_simp
      exact HK.out _ _ ⟨_, rfl, GStr.alloc _ hm1 hm2 hst hbut, Kept.alloc _ _ _, ⟨wx.heap.size, rfl, Nat.ne_of_gt hlt, heap_at _ _ _ rfl⟩⟩
    · obtain rfl := Option.some.inj ho
      obtain rfl := Option.some.inj hd
      have ep : a'.tmps.getD 28 undef = (.pointer (some ⟨σ.b, 0, none⟩)) := hdeps 8 (by decide) 28 rfl
      obtain ⟨br, er, hrn, hr⟩ : PRow σ [0, 5, 10, 15, 50, 200, -1, 5761440] (a'.tmps.getD 29 undef) wx := hdeps 9 (by decide) 29 rfl
      replace er : a'.tmps.getD 29 undef = .slice (some ⟨br, 0, none⟩) 8 8 := er
      clear hoth hdeps hdf hts ho
      refine wp_via (fun K' hK => ?_)
      have HK := Lib.hid hK
      clear hK
      go_simp
      refine (pick_any σ m _ _ _ [0, 5, 10, 15, 50, 200, -1, 5761440] _ hst (by omega) (Sl.lit_ints _ hr rfl hrn) (by simp) (by simp)).mono ?_
      rintro e w2' ⟨v, m2, rfl, ⟨r, rfl, hr2⟩, hm3, hm4, hst2, hb2⟩
      exact HK.out _ _ ⟨_, rfl, GStr.call hm1 hm2 hbut hm3 (by omega) hst2 hb2, hb2, ⟨r, rfl, trivial⟩⟩
  · intro wx f hg hd
    obtain ⟨m, -, hm2, hst, hbut⟩ := hg
    obtain ⟨y1, e25, hy1⟩ : PStr (fun r => r.size ≤ 1000000) (f 25) wx := hd 5 25 (by decide) rfl
    obtain ⟨y2, e27, hy2⟩ : PStr (fun r => r.size ≤ 1000000) (f 27) wx := hd 7 27 (by decide) rfl
    obtain ⟨z, e30, -⟩ : PNum (fun _ => True) (f 30) wx := hd 10 30 (by decide) rfl
    have HB := Lib.hid (fun (wy : World) (k : All wx wy) => (show BoardAt bb (.slice a0 l0 c0) (.slice a1 l1 c1) (.slice a2 l2 c2) (.slice a3 l3 c3) wy from by have h := k.heap (hbut.heap HC.out (by omega)) trivial; exact ⟨cell_at (i := 0) h rfl, cell_at (i := 1) h rfl, cell_at (i := 2) h rfl, cell_at (i := 3) h rfl⟩))
    have HI := Lib.hid (fun (wy : World) (k : All wx wy) => (HBI1.out wx (HKB.out.trans hbut)).keep k)
    have Hend := Lib.hid (show ∀ wy, All wx wy → Below w.heap.size w wy from fun wy hw => ((HK2.out.trans hbut).trans (Kept.all hw)).below (Nat.le_refl _) (fun k hk => by have := Hσ.out; omega))
    rw [show dsts _ 11 = [20, 21, 22, 23, 24, 25, 26, 27, 28, 29, 30] from by kernel_rfl]
    simp only [List.map_cons, List.map_nil, puts, Act.put, e25, e27, e30, List.drop_succ_cons, List.drop_zero]
    generalize f 20 = f20
    generalize f 21 = f21
    generalize f 22 = f22
    generalize f 23 = f23
    generalize f 24 = f24
    generalize f 26 = f26
    generalize f 28 = f28
    generalize f 29 = f29
    clear hd e25 e27 e30 hst hbut hm2 HC HS2 HK2 HKB HBI1 hlb
    obtain ⟨oe, hoe⟩ : ∃ x, x = openE b y1 z := ⟨_, rfl⟩
    obtain ⟨ov, hov⟩ : ∃ x, x = openV b y1 z := ⟨_, rfl⟩
    obtain ⟨me, hme⟩ : ∃ x, x = mayE b y1 y2 z := ⟨_, rfl⟩
    obtain ⟨mv, hmv⟩ : ∃ x, x = mayV b y1 y2 z := ⟨_, rfl⟩
    obtain ⟨bf, hbf⟩ : ∃ x, x = boardF b := ⟨_, rfl⟩
    obtain ⟨k1, hk1⟩ : ∃ x : Int, x = if isKeyB y1 = true then 0 else 5 := ⟨_, rfl⟩
    obtain ⟨k2, hk2⟩ : ∃ x : Int, x = if isKeyB y2 = true then 0 else 5 := ⟨_, rfl⟩
    obtain ⟨mf, hmf⟩ : ∃ x : Int, x = if z < 0 ∨ 5761440 ≤ z then 1 else 0 := ⟨_, rfl⟩
    have HF1 := Lib.hid (show firstV [bf, k1, mf] = oe from by rw [hbf, hk1, hmf, hoe]; exact firstV_open _ _ _)
    have HF2 := Lib.hid (show firstV [bf, k1, k2, mf] = me from by rw [hbf, hk1, hk2, hmf, hme]; exact firstV_may _ _ _ _)
    have HOE := Lib.hid hoe
    have HOV := Lib.hid hov
    have HME := Lib.hid hme
    have HMV := Lib.hid hmv
    have HBF := Lib.hid hbf
    have HK1 := Lib.hid hk1
    have HK2 := Lib.hid hk2
    have HMF := Lib.hid hmf
    clear hoe hov hme hmv hbf hk1 hk2 hmf
    have hq0 : (bf != bf) = false := by simp
    obtain ⟨e0, e1, e2, e3⟩ := HB.out _ (Kept.refl _ _)
    go_wp2_with fail
    refine (open_any a0 l0 c0 a1 l1 c1 a2 l2 c2 a3 l3 c3 b y1 z _ (HI.out _ (Kept.refl _ _)) hy1).mono ?_
    rintro e w3 ⟨rfl, hw3⟩
    rw [← HOE.out, ← HOV.out]
    clear e0 e1 e2 e3
    obtain ⟨e0, e1, e2, e3⟩ := HB.out _ hw3
    go_wp2_with fail
    refine (mayOpen_any a0 l0 c0 a1 l1 c1 a2 l2 c2 a3 l3 c3 b y1 y2 z _ (HI.out _ hw3) hy1 hy2).mono ?_
    rintro e w4 ⟨rfl, hw4⟩
    rw [← HME.out, ← HMV.out]
    replace hw4 := hw3.trans hw4
    clear e0 e1 e2 e3
    obtain ⟨e0, e1, e2, e3⟩ := HB.out _ hw4
    go_wp2_with fail
    refine (boardFault_any a0 l0 c0 a1 l1 c1 a2 l2 c2 a3 l3 c3 b _ (HI.out _ hw4) hc3).mono ?_
    rintro e w5 ⟨rfl, hw5⟩
    rw [← HBF.out]
    replace hw5 := hw4.trans hw5
    clear e0 e1 e2 e3
    obtain ⟨e0, e1, e2, e3⟩ := HB.out _ hw5
    go_wp2_with fail
    refine (checkBoard_any a0 l0 c0 a1 l1 c1 a2 l2 c2 a3 l3 c3 b _ (HI.out _ hw5)).mono ?_
    rintro e w6 ⟨rfl, hw6⟩
    rw [← HBF.out]
    replace hw6 := hw5.trans hw6
    clear e0 e1 e2 e3
    go_wp2_with fail
    refine (keyFault_any y1 _ hy1).mono ?_
    rintro e w7 ⟨he7, hw7⟩
    rw [← HK1.out] at he7
    subst he7
    replace hw7 := hw6.trans hw7
    go_wp2_with fail
    refine (momentFault_any z _).mono ?_
    rintro e w' ⟨he8, hh⟩
    rw [← HMF.out] at he8
    subst he8 hh
    go_wp2_with fail
    refine (errsV_any (some ⟨w7.heap.size, 0, none⟩) 3 3 [bf, k1, mf] _ (Sl.lit_ints _ (heap_at _ _ _ rfl) rfl trivial) (by omega)).mono ?_
    rintro e w' ⟨rfl, rfl⟩
    rw [HF1.out]
    have hw7a := hw7.then_alloc (.cells #[.int .i64 bf, .int .i64 k1, .int .i64 mf] 35)
    go_wp2_with fail
    refine (keyFault_any y1 _ hy1).mono ?_
    rintro e w9 ⟨he9, hw9⟩
    rw [← HK1.out] at he9
    subst he9
    replace hw9 := hw7a.trans hw9
    go_wp2_with fail
    refine (keyFault_any y2 _ hy2).mono ?_
    rintro e w10 ⟨he10, hw10⟩
    rw [← HK2.out] at he10
    subst he10
    replace hw10 := hw9.trans hw10
    go_wp2_with fail
    refine (momentFault_any z _).mono ?_
    rintro e w' ⟨he8, hh⟩
    rw [← HMF.out] at he8
    subst he8 hh
    go_wp2_with fail
    refine (errsV_any (some ⟨w10.heap.size, 0, none⟩) 4 4 [bf, k1, k2, mf] _ (Sl.lit_ints _ (heap_at _ _ _ rfl) rfl trivial) (by omega)).mono ?_
    rintro e w' ⟨rfl, rfl⟩
    rw [HF2.out]
    have hw10a := hw10.then_alloc (.cells #[.int .i64 bf, .int .i64 k1, .int .i64 k2, .int .i64 mf] 35)
    clear hw3 hw4 hw5 hw6 hw7 hw7a hw9 hw10 HF1 HF2 hq0
    obtain ⟨e0, e1, e2, e3⟩ := HB.out _ hw10a
    by_cases ho0 : oe = 0
    · subst ho0
      have HV1 := Lib.hid (show ov = openAt b.turns y1 z from by rw [HOV.out, openV, if_pos HOE.out.symm])
      go_wp2_with fail
      refine (openAt_any _ _ _ a3 l3 c3 b.turns y1 z _ (HI.out _ hw10a).turns (HI.out _ hw10a).n3 rfl rfl rfl).mono ?_
      rintro e w12 ⟨rfl, hw12⟩
      rw [← HV1.out]
      have hw12a := hw10a.trans hw12
      clear e0 e1 e2 e3
      obtain ⟨e0, e1, e2, e3⟩ := HB.out _ hw12a
      by_cases hm0 : me = 0
      · subst hm0
        have HV2 := Lib.hid (show mv = mayB b y1 y2 z from by rw [HMV.out, mayV, if_pos HME.out.symm])
        go_wp2_with fail
        refine (mayOf_any a0 l0 c0 a1 l1 c1 a2 l2 c2 a3 l3 c3 b y1 y2 z _ (HI.out _ hw12a)).mono ?_
        rintro e w13 ⟨rfl, hw13⟩
        rw [← HV2.out]
        go_wp2_with fail
        refine (talked_any _).mono ?_
        rintro e w14 ⟨rfl, hw14⟩
        go_wp2_with fail
        go_ret
        exact ⟨rfl, Hend.out _ ((hw12a.trans hw13).trans hw14)⟩
      · have hmz : (me == 0) = false := by simpa using hm0
        have hmv0 : mv = false := by rw [HMV.out, mayV, if_neg (by rw [← HME.out]; exact hm0)]
        subst hmv0
        clear hm0
        go_wp2_with fail
        refine (talked_any _).mono ?_
        rintro e w14 ⟨rfl, hw14⟩
        go_wp2_with fail
        go_ret
        exact ⟨rfl, Hend.out _ (hw12a.trans hw14)⟩
    · have hoz : (oe == 0) = false := by simpa using ho0
      have hov0 : ov = false := by rw [HOV.out, openV, if_neg (by rw [← HOE.out]; exact ho0)]
      subst hov0
      clear ho0
      by_cases hm0 : me = 0
      · subst hm0
        have HV2 := Lib.hid (show mv = mayB b y1 y2 z from by rw [HMV.out, mayV, if_pos HME.out.symm])
        go_wp2_with fail
        refine (mayOf_any a0 l0 c0 a1 l1 c1 a2 l2 c2 a3 l3 c3 b y1 y2 z _ (HI.out _ hw10a)).mono ?_
        rintro e w13 ⟨rfl, hw13⟩
        rw [← HV2.out]
        go_wp2_with fail
        refine (talked_any _).mono ?_
        rintro e w14 ⟨rfl, hw14⟩
        go_wp2_with fail
        go_ret
        exact ⟨rfl, Hend.out _ ((hw10a.trans hw13).trans hw14)⟩
      · have hmz : (me == 0) = false := by simpa using hm0
        have hmv0 : mv = false := by rw [HMV.out, mayV, if_neg (by rw [← HME.out]; exact hm0)]
        subst hmv0
        clear hm0
        go_wp2_with fail
        refine (talked_any _).mono ?_
        rintro e w14 ⟨rfl, hw14⟩
        go_wp2_with fail
        go_ret
        exact ⟨rfl, Hend.out _ (hw10a.trans hw14)⟩
end Go.Proofs.YtiecaedgphdfdaaGreatDoor
