/- The law ThreadsShown, walked. -/
import Derived.Test.YtllkemadaemjeaaGreatDoorDu
import Derived.Test.YtllkemadaemjeaaGreatDoorDz
import Derived.Test.YtllkemadaemjeaaGreatDoorFg
import Derived.Test.YtllkemadaemjeaaGreatDoorBm
import Derived.Test.YtllkemadaemjeaaGreatDoorRk
import Derived.Test.YtllkemadaemjeaaGreatDoorWb
import Derived.Test.YtllkemadaemjeaaGreatDoorWe
namespace Go.Proofs.YtllkemadaemjeaaGreatDoor
open Go.RowKit

theorem Acc.asSl {α : Type} {R : Rel α} {sz : Nat} {T : TypeId} {B : Nat} {w : World} {v : Value} {xs : List α} (ok : R.Ok) (hsz : 0 < sz) (h : Acc R sz T (fun _ => False) B w v xs) : ∃ p c, v = .slice p xs.length c ∧ Sl R sz (fun _ => True) w p xs.length xs := by
  obtain ⟨p, c, hv, hs⟩ := h.sl ok hsz (G := fun _ => True) (fun _ h => h.elim) (fun _ _ => trivial)
  exact ⟨p, c, hv, hs⟩
theorem threadL_len {b : Board4} {xs : List Post6} {key : ByteArray} (h : postsF b xs = 0) : (threadL xs key).length ≤ xs.length + 1 := by
  rw [threadL, List.length_map]
  exact thread_len h
theorem silentL_len (xs : List Post6) (key : ByteArray) (ps : List Pair2) : (silentL xs key ps).length ≤ ps.length := by
  rw [silentL, List.length_map]
  exact List.length_filter_le _ _
theorem unansL_len (xs ys : List Post6) : (unansL xs ys).length ≤ ys.length := by
  rw [unansL, List.length_map]
  exact List.length_filter_le _ _
theorem firstV_two (fe kf : Int) (h : fe ≠ 0) : firstV [fe, kf] = fe := by rw [firstV, if_pos h]

set_option maxRecDepth 100000 in
set_option maxHeartbeats 12800000 in
theorem threadsShown_walk (a : Option Addr) (len cap : Nat) (w : World) (h : IsRow w a len cap) (hT : Tabs w) :
    Calls Tryz.prog 6 #[.slice a len cap] w fun e w' => e = .returned (.bool true) ∧ Below w.heap.size w w' := by
  have hst := h.start
  obtain ⟨σ, hσ⟩ : ∃ σ : St, σ = ⟨w.heap.size, a, len, cap⟩ := ⟨_, rfl⟩
  have hσb : σ.b = w.heap.size := by rw [hσ]
  rw [← hσ] at hst
  have Hσ := Lib.hid hσb
  have hptr : (Value.pointer (some ⟨w.heap.size, 0, none⟩)) = Value.pointer (some ⟨σ.b, 0, none⟩) := by rw [hσb]
  have Hptr := Lib.hid hptr
  have hk0 : Kept (fun k => k ≠ σ.b) w (w.alloc (.cells #[.slice a len cap, .int .i64 0] 25)) := Kept.alloc _ _ _
  have HTAB := Lib.hid (fun (wx : World) (k : Kept (fun k => k ≠ σ.b) w wx) => hT.kept k (by have := hT.lt; omega) (by have := hT.lt; omega))
  clear hσ hσb hptr h hT
  go_enter Tryz.func6, Tryz.ntmps6
  go_wp2_with fail
  simp only [Hptr.out]
  generalize w.alloc (.cells #[.slice a len cap, .int .i64 0] 25) = w0 at *
  have hlt0 := hst.lt
  refine (board_any σ 0 _ hst (by omega)).mono ?_
  rintro e w1 ⟨v, n1, rfl, ⟨v0, v1, v2, v3, b, rfl, m0, m1, m2, m3, A0, A1, A2, A3, -⟩, -, hn2, hs1, hb1⟩
  have hk1 := hk0.trans hb1
  obtain ⟨a0, c0, rfl, hc0⟩ := A0.form
  obtain ⟨a0', c0', hv0, S0⟩ := A0.sl RPair.ok (by decide) (G := fun k => k ≠ σ.b) (fun _ h => h.elim) (fun k hk => by have := (A0.lt k hk).1; omega)
  obtain ⟨l0, hl0⟩ : ∃ l, l = b.pairs.length := ⟨_, rfl⟩
  rw [← hl0] at S0 hv0 m0 hc0 ⊢
  injection hv0 with q1 q2 q3
  subst q1 q3
  clear q2 hl0 A0
  obtain ⟨a1, c1, rfl, hc1⟩ := A1.form
  obtain ⟨a1', c1', hv1, S1⟩ := A1.sl RPair.ok (by decide) (G := fun k => k ≠ σ.b) (fun _ h => h.elim) (fun k hk => by have := (A1.lt k hk).1; omega)
  obtain ⟨l1, hl1⟩ : ∃ l, l = b.barred.length := ⟨_, rfl⟩
  rw [← hl1] at S1 hv1 m1 hc1 ⊢
  injection hv1 with q1 q2 q3
  subst q1 q3
  clear q2 hl1 A1
  obtain ⟨a2, c2, rfl, hc2⟩ := A2.form
  obtain ⟨a2', c2', hv2, S2⟩ := A2.sl RStr.ok (by decide) (G := fun k => k ≠ σ.b) (fun _ h => h.elim) (fun k hk => by have := (A2.lt k hk).1; omega)
  obtain ⟨l2, hl2⟩ : ∃ l, l = b.heads.length := ⟨_, rfl⟩
  rw [← hl2] at S2 hv2 m2 hc2 ⊢
  injection hv2 with q1 q2 q3
  subst q1 q3
  clear q2 hl2 A2
  obtain ⟨a3, c3, rfl, hc3⟩ := A3.form
  obtain ⟨a3', c3', hv3, S3⟩ := A3.sl RTurn.ok (by decide) (G := fun k => k ≠ σ.b) (fun _ h => h.elim) (fun k hk => by have := (A3.lt k hk).1; omega)
  obtain ⟨l3, hl3⟩ : ∃ l, l = b.turns.length := ⟨_, rfl⟩
  rw [← hl3] at S3 hv3 m3 hc3 ⊢
  injection hv3 with q1 q2 q3
  subst q1 q3
  clear q2 hl3 A3
  have HBI1 := Lib.hid (fun (wx : World) (k : But σ.b w1 wx) => (⟨(S0.keep RPair.ok k).mono RPair.ok (fun _ _ => trivial), (S1.keep RPair.ok k).mono RPair.ok (fun _ _ => trivial), (S2.keep RStr.ok k).mono RStr.ok (fun _ _ => trivial), (S3.keep RTurn.ok k).mono RTurn.ok (fun _ _ => trivial), by omega, by omega, by omega, by omega⟩ : BoardIs wx a0 l0 a1 l1 a2 l2 a3 l3 b))
  have hkb : But σ.b w1 (w1.alloc (.cells #[.slice a0 l0 c0, .slice a1 l1 c1, .slice a2 l2 c2, .slice a3 l3 c3] 50)) := Kept.alloc _ _ _
  have hbb := heap_at w1 (.cells #[.slice a0 l0 c0, .slice a1 l1 c1, .slice a2 l2 c2, .slice a3 l3 c3] 50) _ rfl
  have hs2 := hs1.keep (Kept.alloc (fun _ => True) w1 (.cells #[.slice a0 l0 c0, .slice a1 l1 c1, .slice a2 l2 c2, .slice a3 l3 c3] 50))
  have hlt1 := hs1.lt
  obtain ⟨bb, hbbe⟩ : ∃ b, b = w1.heap.size := ⟨_, rfl⟩
  have Hbb := Lib.hid hbbe
  rw [← hbbe] at hbb
  have hσb : σ.b < bb := by omega
  have hk2 := hk1.trans hkb
  clear hst hk0 hb1 hk1 hs1 hbbe S0 S1 S2 S3 hlt0 hlt1 hc0 hc1 hc2
  go_wp2_with fail
  simp only [← Hbb.out]
  clear Hbb
  generalize w1.alloc (.cells #[.slice a0 l0 c0, .slice a1 l1 c1, .slice a2 l2 c2, .slice a3 l3 c3] 50) = w2 at *
  have HC := Lib.hid hbb
  have HK2 := Lib.hid hk2
  have HS2 := Lib.hid hs2
  have HKB := Lib.hid hkb
  have hlb : bb < w2.heap.size := (Array.getElem?_eq_some_iff.1 hbb).1
  clear hbb hk2 hs2 hkb
  refine wp_region_inv 4 (by kernel_rfl) (by kernel_rfl) (by kernel_rfl) (GStr 10 σ n1 w2)
    (DL [PIs (.pointer (some ⟨σ.b, 0, none⟩)), PIs (.agg #[.slice a0 l0 c0, .slice a1 l1 c1, .slice a2 l2 c2, .slice a3 l3 c3]), PIs (.pointer (some ⟨σ.b, 0, none⟩)), PNum (fun r => 0 ≤ r ∧ r ≤ 12)]) (fun w w' => But σ.b w w')
    (DL.keep (by simp only [List.forall_mem_cons, List.not_mem_nil, false_implies, implies_true, and_true]; exact ⟨PIs.stays _ _, PIs.stays _ _, PIs.stays _ _, PNum.stays _ _⟩)) ?_ ?_ ?_
  · exact ⟨n1, Nat.le_refl _, by omega, HS2.out.keep (Kept.drew _ _), Kept.drew _ _⟩
  · intro i o t ho hd hi k a' wx hk hg hdf hts hoth hdeps
    obtain ⟨m, hm1, hm2, hst, hbut⟩ := hg
    have hlt := hst.lt
    have h5 : i = 0 ∨ i = 1 ∨ i = 2 ∨ i = 3 := by omega
    rcases h5 with rfl | rfl | rfl | rfl
    · obtain rfl := Option.some.inj ho
      obtain rfl := Option.some.inj hd
      have e0 : a'.tmps.getD 3 undef = (.pointer (some ⟨σ.b, 0, none⟩)) := tmp_of ((hoth 3 (by decide)).trans rfl)
      clear hoth hdeps hdf hts ho
      refine wp_via (fun K' hK => ?_)
      have HK := Lib.hid hK
      clear hK
      go_simp
      exact HK.out _ _ ⟨_, rfl, GStr.same hm1 hm2 hst hbut, Kept.refl _ _, rfl⟩
    · obtain rfl := Option.some.inj ho
      obtain rfl := Option.some.inj hd
      have hbx := hbut.heap HC.out (by omega)
      have g0 := cell_at (i := 0) hbx rfl
      have g1 := cell_at (i := 1) hbx rfl
      have g2 := cell_at (i := 2) hbx rfl
      have g3 := cell_at (i := 3) hbx rfl
      clear hbx
      have e0 : a'.tmps.getD 4 undef = .pointer (some ⟨bb, 0, none⟩) := tmp_of ((hoth 4 (by decide)).trans rfl)
      clear hoth hdeps hdf hts ho
      refine wp_via (fun K' hK => ?_)
      have HK := Lib.hid hK
      clear hK
      go_simp
      exact HK.out _ _ ⟨_, rfl, GStr.same hm1 hm2 hst hbut, Kept.refl _ _, rfl⟩
    · obtain rfl := Option.some.inj ho
      obtain rfl := Option.some.inj hd
      have e0 : a'.tmps.getD 3 undef = (.pointer (some ⟨σ.b, 0, none⟩)) := tmp_of ((hoth 3 (by decide)).trans rfl)
      clear hoth hdeps hdf hts ho
      refine wp_via (fun K' hK => ?_)
      have HK := Lib.hid hK
      clear hK
      go_simp
      exact HK.out _ _ ⟨_, rfl, GStr.same hm1 hm2 hst hbut, Kept.refl _ _, rfl⟩
    · obtain rfl := Option.some.inj ho
      obtain rfl := Option.some.inj hd
      have ep : a'.tmps.getD 22 undef = (.pointer (some ⟨σ.b, 0, none⟩)) := hdeps 2 (by decide) 22 rfl
      clear hoth hdeps hdf hts ho
      refine wp_via (fun K' hK => ?_)
      have HK := Lib.hid hK
      clear hK
      go_simp
      refine (range_any σ m 0 12 _ hst (by omega) (by omega) (by omega) (by omega)).mono ?_
      rintro e w2' ⟨v, m2, rfl, ⟨r, rfl, hr2⟩, hm3, hm4, hst2, hb2⟩
      exact HK.out _ _ ⟨_, rfl, GStr.call hm1 hm2 hbut hm3 (by omega) hst2 hb2, hb2, ⟨r, rfl, hr2⟩⟩
  · intro wx f hg hd
    obtain ⟨m, -, hm2, hst, hbut⟩ := hg
    have e20 : f 20 = (.pointer (some ⟨σ.b, 0, none⟩)) := hd 0 20 (by decide) rfl
    have e21 : f 21 = (.agg #[.slice a0 l0 c0, .slice a1 l1 c1, .slice a2 l2 c2, .slice a3 l3 c3]) := hd 1 21 (by decide) rfl
    obtain ⟨r, e23, hr1, hr2⟩ : PNum (fun r => 0 ≤ r ∧ r ≤ 12) (f 23) wx := hd 3 23 (by decide) rfl
    obtain ⟨M, rfl⟩ := Int.eq_ofNat_of_zero_le hr1
    have hM : M ≤ 12 := by omega
    rw [show dsts _ 4 = [20, 21, 22, 23] from by kernel_rfl]
    simp only [List.map_cons, List.map_nil, puts, Act.put, e20, e21, e23, List.drop_succ_cons, List.drop_zero]
    clear hd e20 e21 e23 hr1 hr2
    generalize f 22 = f22
    clear f
    have hlx := hst.lt
    have hkx := HK2.out.trans hbut
    have HBX := Lib.hid (HKB.out.trans hbut)
    have HPO := Lib.hid (postsOf_any a0 l0 c0 a1 l1 c1 a2 l2 c2 a3 l3 c3 b M σ m wx hst (by omega) hM (fun wy k => HBI1.out wy (HBX.out.trans k)) hc3 (fun wy k => HTAB.out wy (hkx.trans k)))
    have HCX := Lib.hid (hbut.heap HC.out (by omega))
    have HKX := Lib.hid hkx
    have hlbx : bb < wx.heap.size := (Array.getElem?_eq_some_iff.1 HCX.out).1
    clear hst hbut hkx HC HK2 HKB HS2 hlb
    go_wp2_with fail
    refine HPO.out.mono ?_
    rintro e w3 ⟨v, n3, rfl, ⟨xs, hxl, hacc⟩, -, hn4, hs3, hb3⟩
    have hn3 : n3 ≤ 100000 := by omega
    obtain ⟨ax, cx, rfl, hcx⟩ := hacc.form
    obtain ⟨ax', cx', hv, hsx⟩ := hacc.sl RPost.ok (by decide) (G := fun k => k ≠ σ.b) (fun _ h => h.elim) (fun k hk => by have := (hacc.lt k hk).1; omega)
    obtain ⟨lx, hlx2⟩ : ∃ m, m = xs.length := ⟨_, rfl⟩
    have HLX := Lib.hid hlx2
    rw [← hlx2] at hsx hxl hcx hv ⊢
    injection hv with q1 q2 q3
    subst q1 q3
    clear q2 hacc hlx2 HPO
    have HC := Lib.hid (hb3.heap HCX.out (by omega))
    have HK3 := Lib.hid (HKX.out.trans hb3)
    have HB3 := Lib.hid (HBX.out.trans hb3)
    have HS3 := Lib.hid hs3
    have HSX := Lib.hid hsx
    have hlb : bb < w3.heap.size := (Array.getElem?_eq_some_iff.1 HC.out).1
    clear HCX HKX HBX hsx hs3 hb3 hlbx hlx hn4 hm2
    go_wp2_with fail
    have hlt3 := HS3.out.lt
    have hka : All w3 ((w3.alloc (.cells #[.string ⟨#[112, 97]⟩, .string ⟨#[112, 98]⟩, .string ⟨#[112, 99]⟩, .string ⟨#[65]⟩] 9)).alloc (.cells #[.int .i64 0, .int .i64 0, .int .i64 1, .int .i64 2, .int .i64 3] 3)) := (Kept.alloc _ _ _).then_alloc _
    have hst3 := HS3.out.keep hka
    have hrs := heap_old (.cells #[.int .i64 0, .int .i64 0, .int .i64 1, .int .i64 2, .int .i64 3] 3) (heap_at w3 (.cells #[.string ⟨#[112, 97]⟩, .string ⟨#[112, 98]⟩, .string ⟨#[112, 99]⟩, .string ⟨#[65]⟩] 9) _ rfl)
    have hri := heap_at (w3.alloc (.cells #[.string ⟨#[112, 97]⟩, .string ⟨#[112, 98]⟩, .string ⟨#[112, 99]⟩, .string ⟨#[65]⟩] 9)) (.cells #[.int .i64 0, .int .i64 0, .int .i64 1, .int .i64 2, .int .i64 3] 3) (w3.heap.size + 1) (by simp)
    obtain ⟨sb, hsb⟩ : ∃ k, k = w3.heap.size := ⟨_, rfl⟩
    have HSB := Lib.hid hsb
    rw [← hsb] at hrs hri
    have hsn : σ.b ≠ sb ∧ σ.b ≠ sb + 1 ∧ σ.b < sb := by omega
    clear hlt3 hsb
    simp only [← HSB.out]
    generalize ((w3.alloc (.cells #[.string ⟨#[112, 97]⟩, .string ⟨#[112, 98]⟩, .string ⟨#[112, 99]⟩, .string ⟨#[65]⟩] 9)).alloc (.cells #[.int .i64 0, .int .i64 0, .int .i64 1, .int .i64 2, .int .i64 3] 3)) = w3a at *
    refine (pick_any σ n3 _ 5 5 [0, 0, 1, 2, 3] _ hst3 (by omega) (Sl.lit_ints _ hri rfl (fun e => hsn.2.1 e.symm)) (by omega) (by omega)).mono ?_
    rintro e w4 ⟨v, n4, rfl, ⟨r, rfl, hr⟩, -, hn4, hs4, hb4⟩
    obtain ⟨j, hrj, hj⟩ : ∃ j : Nat, r = (j : Int) ∧ j < 4 := by
      simp only [List.mem_cons, List.not_mem_nil, or_false] at hr
      rcases hr with rfl | rfl | rfl | rfl | rfl
      · exact ⟨0, rfl, by omega⟩
      · exact ⟨0, rfl, by omega⟩
      · exact ⟨1, rfl, by omega⟩
      · exact ⟨2, rfl, by omega⟩
      · exact ⟨3, rfl, by omega⟩
    subst hrj
    have hstr := hb4.heap hrs (fun e => hsn.1 e.symm)
    obtain ⟨y, hcy, hyz⟩ : ∃ y : ByteArray, w4.cell? ⟨sb, j, none⟩ = some (.string y) ∧ y.size ≤ 1000000 := by
      obtain ⟨b', off', y, ha', -, hcy, hyz, -, -, -⟩ := (Sl.lit_strs (F := fun _ => True) [⟨#[112, 97]⟩, ⟨#[112, 98]⟩, ⟨#[112, 99]⟩, ⟨#[65]⟩] hstr rfl trivial).atStr (k := j) (by simp; omega)
      simp only [Option.some.injEq, Addr.mk.injEq] at ha'
      obtain ⟨rfl, rfl, -⟩ := ha'
      exact ⟨y, by simpa using hcy, hyz⟩
    have f1 : (0 : Int) ≤ (j : Int) := by omega
    have f2 : (j : Int) < 4 := by omega
    have hbS : But σ.b w3 w4 := (Kept.all hka).trans hb4
    have HB := Lib.hid (fun (wy : World) (k : All w4 wy) => (show BoardAt bb (.slice a0 l0 c0) (.slice a1 l1 c1) (.slice a2 l2 c2) (.slice a3 l3 c3) wy from by have h := k.heap (hbS.heap HC.out (by omega)) trivial; exact ⟨cell_at (i := 0) h rfl, cell_at (i := 1) h rfl, cell_at (i := 2) h rfl, cell_at (i := 3) h rfl⟩))
    have HI := Lib.hid (fun (wy : World) (k : All w4 wy) => (HBI1.out w4 (HB3.out.trans hbS)).keep k)
    have HX := Lib.hid (fun (wy : World) (k : All w4 wy) => ((HSX.out.keep RPost.ok hbS).mono RPost.ok (fun _ _ => trivial)).keep RPost.ok k)
    have HTB := Lib.hid (fun (wy : World) (k : All w4 wy) => HTAB.out wy ((HK3.out.trans hbS).trans (Kept.all k)))
    have Hend := Lib.hid (show ∀ wy, All w4 wy → Below w.heap.size w wy from fun wy hw => ((HK3.out.trans hbS).trans (Kept.all hw)).below (Nat.le_refl _) (fun k hk => by have := Hσ.out; omega))
    have HTH := Lib.hid (fun (wy : World) (k : All w4 wy) => thread_any a0 l0 c0 a1 l1 c1 a2 l2 c2 a3 l3 c3 b ax lx cx xs y wy (HI.out wy k) (HX.out wy k) (by omega) hcx hyz (HTB.out wy k))
    have HSI := Lib.hid (fun (wy : World) (k : All w4 wy) => silent_any a0 l0 c0 a1 l1 c1 a2 l2 c2 a3 l3 c3 b ax lx cx xs y wy (HI.out wy k) (HX.out wy k) (by omega) hcx hyz (HTB.out wy k))
    have HUN := Lib.hid (fun (wy : World) (k : All w4 wy) => unanswered_any a0 l0 c0 a1 l1 c1 a2 l2 c2 a3 l3 c3 b ax lx cx xs wy (HI.out wy k) (HX.out wy k) (by omega) hcx (HTB.out wy k))
    have HPF := Lib.hid (fun (wy : World) (k : All w4 wy) => postsFault_any a0 l0 c0 a1 l1 c1 a2 l2 c2 a3 l3 c3 b ax lx cx xs wy (HI.out wy k) hc3 (HX.out wy k) (by omega) hcx (HTB.out wy k))
    have HKF := Lib.hid (fun (wy : World) => keyFault_any y wy hyz)
    have HSO := Lib.hid (fun (wy : World) (k : All w4 wy) => silentOf_any a0 l0 c0 a1 l1 c1 a2 l2 c2 a3 l3 c3 b ax lx cx xs y wy (HI.out wy k) (HX.out wy k) (by omega))
    have HUO := Lib.hid (fun (wy : World) (k : All w4 wy) => unansweredOf_any ax lx cx xs wy (HX.out wy k) (by omega))
    obtain ⟨fe, hfe⟩ : ∃ x, x = postsF b xs := ⟨_, rfl⟩
    have HFE := Lib.hid hfe
    have hlen2 : xs.length ≤ 2000 := by have := HLX.out; omega
    have HSL := Lib.hid (show (silentL xs y b.pairs).length ≤ 1000000 from Nat.le_trans (silentL_len _ _ _) (by have := (HI.out w4 (Kept.refl _ _)).pairs.len; have := (HI.out w4 (Kept.refl _ _)).n0; omega))
    obtain ⟨e0, e1, e2, e3⟩ := HB.out _ (Kept.refl _ _)
    clear hfe hbS HC HS3 HK3 HB3 HBI1 HSX HTAB hlb hc3 HI HTB hka hst3 hrs hri hs4 hb4 hr hn4 hstr
    have hnx : lx ≤ 2000 := by have := HLX.out; omega
    go_wp2_with fail
    clear hcy f1 f2
    by_cases hf0 : fe = 0
    · subst hf0
      have hsnd : postsF b xs = 0 := HFE.out.symm
      have HTO := Lib.hid (fun (wy : World) (k : All w4 wy) => threadOf_any hsnd hlen2 ax lx cx y wy (HX.out wy k))
      have HTL := Lib.hid (threadL_len (key := y) hsnd)
      have HUL := Lib.hid (unansL_len xs xs)
      clear hsnd
      cases hky : isKeyB y with
      | true =>
        have HE := Lib.hid (show keyE b xs y = 0 from by rw [keyE, ← HFE.out, hky]; rfl)
        have HKY := Lib.hid hky
        clear hky
        refine (HTH.out _ (Kept.refl _ _)).mono ?_
        rintro e w5 ⟨-, hgood, hwn⟩
        obtain ⟨v, rfl, hac⟩ := hgood HE.out
        obtain ⟨p5, c5x, rfl, hs⟩ := Acc.asSl RLine.ok (by decide) hac
        obtain ⟨t5, ht5⟩ : ∃ t, t = (threadL xs y).length := ⟨_, rfl⟩
        rw [← ht5] at hs ⊢
        have HS5 := Lib.hid hs
        have HT5 := Lib.hid ht5
        have hb5 : t5 ≤ 1000000 := by have := HT5.out; have := HTL.out; omega
        have k5 : All w4 w5 := ((Kept.refl _ _)).trans hwn
        have hw5 := hwn
        clear hgood hac hs ht5 hwn
        clear e0 e1 e2 e3
        obtain ⟨e0, e1, e2, e3⟩ := HB.out _ k5
        go_wp2_with fail
        refine (HSI.out _ k5).mono ?_
        rintro e w6 ⟨-, hgood, hwn⟩
        obtain ⟨v, rfl, hac⟩ := hgood HE.out
        obtain ⟨p6, c6x, rfl, hs⟩ := Acc.asSl RStr.ok (by decide) hac
        obtain ⟨t6, ht6⟩ : ∃ t, t = (silentL xs y b.pairs).length := ⟨_, rfl⟩
        rw [← ht6] at hs ⊢
        have HS6 := Lib.hid hs
        have HT6 := Lib.hid ht6
        have hb6 : t6 ≤ 1000000 := by have := HT6.out; have := HSL.out; omega
        have k6 : All w4 w6 := (k5).trans hwn
        have hw6 := hwn
        clear hgood hac hs ht6 hwn
        clear e0 e1 e2 e3
        obtain ⟨e0, e1, e2, e3⟩ := HB.out _ k6
        go_wp2_with fail
        refine (HUN.out _ k6).mono ?_
        rintro e w7 ⟨-, hgood, hwn⟩
        obtain ⟨v, rfl, hac⟩ := hgood HFE.out.symm
        obtain ⟨p7, c7x, rfl, hs⟩ := Acc.asSl RInt.ok (by decide) hac
        obtain ⟨t7, ht7⟩ : ∃ t, t = (unansL xs xs).length := ⟨_, rfl⟩
        rw [← ht7] at hs ⊢
        have HS7 := Lib.hid hs
        have HT7 := Lib.hid ht7
        have hb7 : t7 ≤ 1000000 := by have := HT7.out; have := HUL.out; omega
        have k7 : All w4 w7 := (k6).trans hwn
        have hw7 := hwn
        clear hgood hac hs ht7 hwn
        have h57 : All w5 w7 := hw6.trans hw7
        have h67 : All w6 w7 := hw7
        clear e0 e1 e2 e3
        obtain ⟨e0, e1, e2, e3⟩ := HB.out _ k7
        go_wp2_with fail
        refine (HPF.out _ k7).mono ?_
        rintro e w8 ⟨rfl, hwn⟩
        rw [← HFE.out]
        have k8 : All w4 w8 := (k7).trans hwn
        have hw8 := hwn
        clear hwn
        go_wp2_with fail
        refine (HKF.out _).mono ?_
        rintro e w9 ⟨rfl, hwn⟩
        rw [if_pos HKY.out]
        have k9 : All w4 w9 := k8.trans hwn
        have hw89 := hw8.trans hwn
        clear hwn
        go_wp2_with fail
        refine (errsV_any (some ⟨w9.heap.size, 0, none⟩) 2 2 [0, 0] _ (Sl.lit_ints _ (heap_at _ _ _ rfl) rfl trivial) (by omega)).mono ?_
        rintro e w' ⟨rfl, hh⟩
        subst hh
        rw [show firstV [0, 0] = 0 from rfl]
        have kA := k9.then_alloc (.cells #[.int .i64 0, .int .i64 0] 31)
        clear e0 e1 e2 e3
        obtain ⟨e0, e1, e2, e3⟩ := HB.out _ kA
        have hK7 : All w7 (w9.alloc (.cells #[.int .i64 0, .int .i64 0] 31)) := hw89.then_alloc _
        go_wp2_with fail
        refine (HTO.out _ kA).mono ?_
        rintro e w10 ⟨⟨v, rfl, hac⟩, hwn⟩
        obtain ⟨p10, c10, rfl, hs10⟩ := Acc.asSl RLine.ok (by decide) hac
        rw [← HT5.out] at hs10 ⊢
        have k10 : All w4 w10 := kA.trans hwn
        have HS10 := Lib.hid hs10
        have hK5 : All w5 w10 := (h57.trans hK7).trans hwn
        have hK6 : All w6 w10 := (h67.trans hK7).trans hwn
        replace hK7 := hK7.trans hwn
        clear hac hs10 hwn
        go_wp2_with fail
        refine (equalLine_same p5 t5 c5x p10 t5 c10 _ _ (HS5.out.keep RLine.ok hK5) HS10.out hb5).mono ?_
        rintro e w11 ⟨rfl, hwn⟩
        have k11 : All w4 w11 := k10.trans hwn
        replace hK6 := hK6.trans hwn
        replace hK7 := hK7.trans hwn
        clear hwn
        clear e0 e1 e2 e3
        obtain ⟨e0, e1, e2, e3⟩ := HB.out _ k11
        go_wp2_with fail
        refine (HSO.out _ k11).mono ?_
        rintro e w12 ⟨v, rfl, hac, hwn⟩
        obtain ⟨p12, c12, rfl, hs12⟩ := Acc.asSl RStr.ok (by decide) hac
        rw [← HT6.out] at hs12 ⊢
        have k12 : All w4 w12 := k11.trans hwn
        have HS12 := Lib.hid hs12
        replace hK6 := hK6.trans hwn
        replace hK7 := hK7.trans hwn
        clear hac hs12 hwn
        go_wp2_with fail
        refine (equalStr_same p6 t6 c6x p12 t6 c12 _ _ (HS6.out.keep RStr.ok hK6) HS12.out hb6).mono ?_
        rintro e w13 ⟨rfl, hwn⟩
        have k13 : All w4 w13 := k12.trans hwn
        replace hK7 := hK7.trans hwn
        clear hwn
        go_wp2_with fail
        refine (HUO.out _ k13).mono ?_
        rintro e wu ⟨v, rfl, hac, hwu⟩
        obtain ⟨pu, cu, rfl, hsu⟩ := Acc.asSl RInt.ok (by decide) hac
        rw [← HT7.out] at hsu ⊢
        have ku : All w4 wu := (k13).trans hwu
        have HSU := Lib.hid hsu
        clear hac hsu
        go_wp2_with fail
        refine (equalI_same p7 t7 c7x pu t7 cu _ _ ((HS7.out).keep RInt.ok (hK7.trans hwu)) HSU.out hb7).mono ?_
        rintro e wv ⟨rfl, hwv⟩
        have kv : All w4 wv := ku.trans hwv
        go_wp2_with fail
        refine (talked_any _).mono ?_
        rintro e wz ⟨rfl, hwz⟩
        go_wp2_with fail
        go_ret
        exact ⟨rfl, Hend.out _ ((kv).trans hwz)⟩
      | false =>
        have HE := Lib.hid (show keyE b xs y = 5 from by rw [keyE, ← HFE.out, hky]; rfl)
        have HNE := Lib.hid (show keyE b xs y ≠ 0 from by rw [HE.out]; decide)
        have HKY := Lib.hid (show ¬ isKeyB y = true from by rw [hky]; decide)
        clear hky
        refine (HTH.out _ (Kept.refl _ _)).mono ?_
        rintro e w5 ⟨hbad, -, hwn⟩
        have he := hbad HNE.out
        rw [HE.out] at he
        subst he
        have k5 : All w4 w5 := hwn
        clear hbad hwn
        clear e0 e1 e2 e3
        obtain ⟨e0, e1, e2, e3⟩ := HB.out _ k5
        go_wp2_with fail
        refine (HSI.out _ k5).mono ?_
        rintro e w6 ⟨hbad, -, hwn⟩
        have he := hbad HNE.out
        rw [HE.out] at he
        subst he
        have k6 : All w4 w6 := k5.trans hwn
        clear hbad hwn
        clear e0 e1 e2 e3
        obtain ⟨e0, e1, e2, e3⟩ := HB.out _ k6
        go_wp2_with fail
        refine (HUN.out _ k6).mono ?_
        rintro e w7 ⟨-, hgood, hwn⟩
        obtain ⟨v, rfl, hac⟩ := hgood HFE.out.symm
        obtain ⟨p7, c7x, rfl, hs⟩ := Acc.asSl RInt.ok (by decide) hac
        obtain ⟨t7, ht7⟩ : ∃ t, t = (unansL xs xs).length := ⟨_, rfl⟩
        rw [← ht7] at hs ⊢
        have HS7 := Lib.hid hs
        have HT7 := Lib.hid ht7
        have hb7 : t7 ≤ 1000000 := by have := HT7.out; have := HUL.out; omega
        have k7 : All w4 w7 := (k6).trans hwn
        have hw7 := hwn
        clear hgood hac hs ht7 hwn
        clear e0 e1 e2 e3
        obtain ⟨e0, e1, e2, e3⟩ := HB.out _ k7
        go_wp2_with fail
        refine (HPF.out _ k7).mono ?_
        rintro e w8 ⟨rfl, hwn⟩
        rw [← HFE.out]
        have k8 : All w4 w8 := (k7).trans hwn
        have hw8 := hwn
        clear hwn
        go_wp2_with fail
        refine (HKF.out _).mono ?_
        rintro e w9 ⟨rfl, hwn⟩
        rw [if_neg HKY.out]
        have k9 : All w4 w9 := k8.trans hwn
        have hw89 := hw8.trans hwn
        clear hwn
        go_wp2_with fail
        refine (errsV_any (some ⟨w9.heap.size, 0, none⟩) 2 2 [0, 5] _ (Sl.lit_ints _ (heap_at _ _ _ rfl) rfl trivial) (by omega)).mono ?_
        rintro e w' ⟨rfl, hh⟩
        subst hh
        rw [show firstV [0, 5] = 5 from rfl]
        have kA := k9.then_alloc (.cells #[.int .i64 0, .int .i64 5] 31)
        have hK7 : All w7 (w9.alloc (.cells #[.int .i64 0, .int .i64 5] 31)) := hw89.then_alloc _
        go_wp2_with fail
        refine (HUO.out _ kA).mono ?_
        rintro e wu ⟨v, rfl, hac, hwu⟩
        obtain ⟨pu, cu, rfl, hsu⟩ := Acc.asSl RInt.ok (by decide) hac
        rw [← HT7.out] at hsu ⊢
        have ku : All w4 wu := (kA).trans hwu
        have HSU := Lib.hid hsu
        clear hac hsu
        go_wp2_with fail
        refine (equalI_same p7 t7 c7x pu t7 cu _ _ ((HS7.out).keep RInt.ok (hK7.trans hwu)) HSU.out hb7).mono ?_
        rintro e wv ⟨rfl, hwv⟩
        have kv : All w4 wv := ku.trans hwv
        go_wp2_with fail
        refine (talked_any _).mono ?_
        rintro e wz ⟨rfl, hwz⟩
        go_wp2_with fail
        go_ret
        exact ⟨rfl, Hend.out _ ((kv).trans hwz)⟩
    · have hne : (fe != 0) = true := by simpa using hf0
      have hff : (fe == fe) = true := by simp
      have hfn : (fe != fe) = false := by simp
      have HF0 := Lib.hid (show postsF b xs ≠ 0 from fun h => hf0 (HFE.out.trans h))
      have HE := Lib.hid (show keyE b xs y = fe from by rw [keyE, if_pos HF0.out]; exact HFE.out.symm)
      have HNE := Lib.hid (show keyE b xs y ≠ 0 from by rw [HE.out]; exact hf0)
      have HFV := Lib.hid (fun kf : Int => firstV_two fe kf hf0)
      clear hf0
      obtain ⟨kf, hkf⟩ : ∃ k : Int, k = (if isKeyB y = true then 0 else 5) := ⟨_, rfl⟩
      have HKF2 := Lib.hid hkf
      clear hkf
      refine (HTH.out _ (Kept.refl _ _)).mono ?_
      rintro e w5 ⟨hbad, -, hwn⟩
      have he := hbad HNE.out
      rw [HE.out] at he
      subst he
      have k5 : All w4 w5 := hwn
      clear hbad hwn
      clear e0 e1 e2 e3
      obtain ⟨e0, e1, e2, e3⟩ := HB.out _ k5
      go_wp2_with fail
      refine (HSI.out _ k5).mono ?_
      rintro e w6 ⟨hbad, -, hwn⟩
      have he := hbad HNE.out
      rw [HE.out] at he
      subst he
      have k6 : All w4 w6 := k5.trans hwn
      clear hbad hwn
      clear e0 e1 e2 e3
      obtain ⟨e0, e1, e2, e3⟩ := HB.out _ k6
      go_wp2_with fail
      refine (HUN.out _ k6).mono ?_
      rintro e w7 ⟨hbad, -, hwn⟩
      have he := hbad HF0.out
      rw [← HFE.out] at he
      subst he
      have k7 : All w4 w7 := k6.trans hwn
      clear hbad hwn
      clear e0 e1 e2 e3
      obtain ⟨e0, e1, e2, e3⟩ := HB.out _ k7
      go_wp2_with fail
      refine (HPF.out _ k7).mono ?_
      rintro e w8 ⟨rfl, hwn⟩
      rw [← HFE.out]
      have k8 : All w4 w8 := (k7).trans hwn
      have hw8 := hwn
      clear hwn
      go_wp2_with fail
      refine (HKF.out _).mono ?_
      rintro e w9 ⟨rfl, hwn⟩
      rw [← HKF2.out]
      have k9 : All w4 w9 := k8.trans hwn
      have hw89 := hw8.trans hwn
      clear hwn
      go_wp2_with fail
      refine (errsV_any (some ⟨w9.heap.size, 0, none⟩) 2 2 [fe, kf] _ (Sl.lit_ints _ (heap_at _ _ _ rfl) rfl trivial) (by omega)).mono ?_
      rintro e w' ⟨rfl, hh⟩
      subst hh
      rw [HFV.out kf]
      have kA := k9.then_alloc (.cells #[.int .i64 fe, .int .i64 kf] 31)
      clear e0 e1 e2 e3
      obtain ⟨e0, e1, e2, e3⟩ := HB.out _ kA
      go_wp2_with fail
      refine (talked_any _).mono ?_
      rintro e wz ⟨rfl, hwz⟩
      go_wp2_with fail
      go_ret
      exact ⟨rfl, Hend.out _ ((kA).trans hwz)⟩
end Go.Proofs.YtllkemadaemjeaaGreatDoor
