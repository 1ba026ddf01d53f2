/- Equal of posts: true of what reads alike. -/
import Derived.Test.YtllkemadaemjeaaGreatDoorIp
import Derived.Test.YtllkemadaemjeaaGreatDoorZb
import Derived.Test.YtllkemadaemjeaaGreatDoorDu
import Derived.Test.YtllkemadaemjeaaGreatDoorDs
import Derived.Test.YtllkemadaemjeaaGreatDoorBm
import Derived.Test.YtllkemadaemjeaaGreatDoorRk
import Derived.Test.YtllkemadaemjeaaGreatDoorWb
import Derived.Test.YtllkemadaemjeaaGreatDoorWe
namespace Go.Proofs.YtllkemadaemjeaaGreatDoor
open Go.RowKit

set_option maxHeartbeats 800000 in
theorem equalPost_same (a1 : Option Addr) (l1 c1 : Nat) (a2 : Option Addr) (l2 c2 : Nat) (cs : List Post6) (w : World) (h1 : Sl RPost 6 (fun _ => True) w a1 l1 cs) (h2 : Sl RPost 6 (fun _ => True) w a2 l2 cs) (hl : l1 ≤ 1000000) :
    Calls Tryz.prog 29 #[.slice a1 l1 c1, .slice a2 l2 c2] w fun e w' => e = .returned (.bool true) ∧ All w w' := by
  have e1 := h1.len
  have e2 := h2.len
  have e3 : l2 = l1 := by omega
  subst e3
  clear e1 e2
  go_enter Tryz.func29, Tryz.ntmps29
  go_wp2_with fail
  go_loopw [13] (fun i wr => ∃ k : Nat, k ≤ l2 ∧ i = .int .i64 k ∧ All w wr) (fun i _ => l2 - (intOf i).toNat)
  case atStart => exact ⟨0, Nat.zero_le _, rfl, Kept.refl _ _⟩
  case round =>
    obtain ⟨k, hk, rfl, hall⟩ := hrel
    by_cases hlt : k < l2
    · obtain ⟨b1, o1, y1, ha1, -, p0, p1, p2, p3, p4, p5, -, hy1, -⟩ := (h1.keep RPost.ok hall).atPost hlt
      obtain ⟨b2, o2, y2, ha2, -, q0, q1, q2, q3, q4, q5, -, hy2, -⟩ := (h2.keep RPost.ok hall).atPost hlt
      have hy : y2 = y1 := by rw [hy1] at hy2; injection hy2 with hy2; exact hy2.symm
      subst hy
      subst ha1
      subst ha2
      clear h1 h2 hy1 hy2
      go_wp2_with fail
      go_quiet (fail)
      go_wp2_with fail
      go_roundw
      case rel => exact ⟨k + 1, by omega, by go_num, hall.then_drewN _⟩
      case measure => simp [intOf]; omega
    · have hd : decide ((k : Int) < (l2 : Int)) = false := by simp; omega
      go_wp2_with fail
      go_ret
      exact ⟨rfl, hall⟩

end Go.Proofs.YtllkemadaemjeaaGreatDoor

/- The law PostChecks, walked. -/
namespace Go.Proofs.YtllkemadaemjeaaGreatDoor
open Go.RowKit

/-- A place at which a short string lies. -/
def PAt (σ : St) (v : Value) (w : World) : Prop := ∃ b j y, v = .pointer (some ⟨b, j, none⟩) ∧ b ≠ σ.b ∧ w.cell? ⟨b, j, none⟩ = some (.string y) ∧ y.size ≤ 1000000
theorem PAt.stays (σ : St) : Stays (fun w w' => But σ.b w w') (PAt σ) := fun _ _ _ k ⟨b, j, y, h1, h2, h3, h4⟩ => ⟨b, j, y, h1, h2, k.cell h3 h2, h4⟩
def PPost (v : Value) (_ : World) : Prop := ∃ (no tm : Int) (p q : ByteArray) (an : Int) (ws : ByteArray), v = .agg #[.int .i64 no, .int .i64 tm, .string p, .string q, .int .i64 an, .string ws] ∧ PostSmall ⟨no, tm, p, q, an, ws⟩
theorem PPost.stays (σ : St) : Stays (fun w w' => But σ.b w w') PPost := fun _ _ _ _ h => h
theorem nilPosts (w : World) : Sl RPost 6 (fun _ => True) w none 0 [] := ⟨rfl, fun h => absurd h (Nat.lt_irrefl 0)⟩
theorem addE_ok (b : Board4) (xs : List Post6) (p : Post6) (h : postsF b xs = 0) : addE b xs p = postOfE b xs p := by rw [addE, if_neg (fun h2 => h2 h)]
theorem addE_bad (b : Board4) (xs : List Post6) (p : Post6) (h : postsF b xs ≠ 0) : addE b xs p = postsF b xs := by rw [addE, if_pos h]

set_option maxRecDepth 100000 in
set_option maxHeartbeats 12800000 in
theorem postChecks_walk (a : Option Addr) (len cap : Nat) (w : World) (h : IsRow w a len cap) (hT : Tabs w) :
    Calls Tryz.prog 4 #[.slice a len cap] w fun e w' => e = .returned (.bool true) ∧ Below w.heap.size w w' := by
  have hst := h.start
  obtain ⟨σ, hσ⟩ : ∃ σ : St, σ = ⟨w.heap.size, a, len, cap⟩ := ⟨_, rfl⟩
  have hσb : σ.b = w.heap.size := by rw [hσ]
  rw [← hσ] at hst
  have Hσ := Lib.hid hσb
  have hptr : (Value.pointer (some ⟨w.heap.size, 0, none⟩)) = Value.pointer (some ⟨σ.b, 0, none⟩) := by rw [hσb]
  have Hptr := Lib.hid hptr
  have hk0 : Kept (fun k => k ≠ σ.b) w (w.alloc (.cells #[.slice a len cap, .int .i64 0] 25)) := Kept.alloc _ _ _
  have HTAB := Lib.hid (fun (wx : World) (k : Kept (fun k => k ≠ σ.b) w wx) => hT.kept k (by have := hT.lt; omega) (by have := hT.lt; omega))
  clear hσ hσb hptr h hT
  go_enter Tryz.func4, Tryz.ntmps4
  go_wp2_with fail
  simp only [Hptr.out]
  generalize w.alloc (.cells #[.slice a len cap, .int .i64 0] 25) = w0 at *
  have hlt0 := hst.lt
  refine (board_any σ 0 _ hst (by omega)).mono ?_
  rintro e w1 ⟨v, n1, rfl, ⟨v0, v1, v2, v3, b, rfl, m0, m1, m2, m3, A0, A1, A2, A3, -⟩, -, hn2, hs1, hb1⟩
  have hk1 := hk0.trans hb1
  obtain ⟨a0, c0, rfl, hc0⟩ := A0.form
  obtain ⟨a0', c0', hv0, S0⟩ := A0.sl RPair.ok (by decide) (G := fun k => k ≠ σ.b) (fun _ h => h.elim) (fun k hk => by have := (A0.lt k hk).1; omega)
  obtain ⟨l0, hl0⟩ : ∃ l, l = b.pairs.length := ⟨_, rfl⟩
  rw [← hl0] at S0 hv0 m0 hc0 ⊢
  injection hv0 with q1 q2 q3
  subst q1 q3
  clear q2 hl0 A0
  obtain ⟨a1, c1, rfl, hc1⟩ := A1.form
  obtain ⟨a1', c1', hv1, S1⟩ := A1.sl RPair.ok (by decide) (G := fun k => k ≠ σ.b) (fun _ h => h.elim) (fun k hk => by have := (A1.lt k hk).1; omega)
  obtain ⟨l1, hl1⟩ : ∃ l, l = b.barred.length := ⟨_, rfl⟩
  rw [← hl1] at S1 hv1 m1 hc1 ⊢
  injection hv1 with q1 q2 q3
  subst q1 q3
  clear q2 hl1 A1
  obtain ⟨a2, c2, rfl, hc2⟩ := A2.form
  obtain ⟨a2', c2', hv2, S2⟩ := A2.sl RStr.ok (by decide) (G := fun k => k ≠ σ.b) (fun _ h => h.elim) (fun k hk => by have := (A2.lt k hk).1; omega)
  obtain ⟨l2, hl2⟩ : ∃ l, l = b.heads.length := ⟨_, rfl⟩
  rw [← hl2] at S2 hv2 m2 hc2 ⊢
  injection hv2 with q1 q2 q3
  subst q1 q3
  clear q2 hl2 A2
  obtain ⟨a3, c3, rfl, hc3⟩ := A3.form
  obtain ⟨a3', c3', hv3, S3⟩ := A3.sl RTurn.ok (by decide) (G := fun k => k ≠ σ.b) (fun _ h => h.elim) (fun k hk => by have := (A3.lt k hk).1; omega)
  obtain ⟨l3, hl3⟩ : ∃ l, l = b.turns.length := ⟨_, rfl⟩
  rw [← hl3] at S3 hv3 m3 hc3 ⊢
  injection hv3 with q1 q2 q3
  subst q1 q3
  clear q2 hl3 A3
  have HBI1 := Lib.hid (fun (wx : World) (k : But σ.b w1 wx) => (⟨(S0.keep RPair.ok k).mono RPair.ok (fun _ _ => trivial), (S1.keep RPair.ok k).mono RPair.ok (fun _ _ => trivial), (S2.keep RStr.ok k).mono RStr.ok (fun _ _ => trivial), (S3.keep RTurn.ok k).mono RTurn.ok (fun _ _ => trivial), by omega, by omega, by omega, by omega⟩ : BoardIs wx a0 l0 a1 l1 a2 l2 a3 l3 b))
  have hkb : But σ.b w1 (w1.alloc (.cells #[.slice a0 l0 c0, .slice a1 l1 c1, .slice a2 l2 c2, .slice a3 l3 c3] 50)) := Kept.alloc _ _ _
  have hbb := heap_at w1 (.cells #[.slice a0 l0 c0, .slice a1 l1 c1, .slice a2 l2 c2, .slice a3 l3 c3] 50) _ rfl
  have hs2 := hs1.keep (Kept.alloc (fun _ => True) w1 (.cells #[.slice a0 l0 c0, .slice a1 l1 c1, .slice a2 l2 c2, .slice a3 l3 c3] 50))
  have hlt1 := hs1.lt
  obtain ⟨bb, hbbe⟩ : ∃ b, b = w1.heap.size := ⟨_, rfl⟩
  have Hbb := Lib.hid hbbe
  rw [← hbbe] at hbb
  have hσb : σ.b < bb := by omega
  have hk2 := hk1.trans hkb
  clear hst hk0 hb1 hk1 hs1 hbbe S0 S1 S2 S3 hlt0 hlt1 hc0 hc1 hc2
  go_wp2_with fail
  simp only [← Hbb.out]
  clear Hbb
  generalize w1.alloc (.cells #[.slice a0 l0 c0, .slice a1 l1 c1, .slice a2 l2 c2, .slice a3 l3 c3] 50) = w2 at *
  have HC := Lib.hid hbb
  have HK2 := Lib.hid hk2
  have HS2 := Lib.hid hs2
  have HKB := Lib.hid hkb
  have hlb : bb < w2.heap.size := (Array.getElem?_eq_some_iff.1 hbb).1
  clear hbb hk2 hs2 hkb
  refine wp_region_inv 4 (by kernel_rfl) (by kernel_rfl) (by kernel_rfl) (GStr 10 σ n1 w2)
    (DL [PIs (.pointer (some ⟨σ.b, 0, none⟩)), PIs (.agg #[.slice a0 l0 c0, .slice a1 l1 c1, .slice a2 l2 c2, .slice a3 l3 c3]), PIs (.pointer (some ⟨σ.b, 0, none⟩)), PNum (fun r => 0 ≤ r ∧ r ≤ 7)]) (fun w w' => But σ.b w w')
    (DL.keep (by simp only [List.forall_mem_cons, List.not_mem_nil, false_implies, implies_true, and_true]; exact ⟨PIs.stays _ _, PIs.stays _ _, PIs.stays _ _, PNum.stays _ _⟩)) ?_ ?_ ?_
  · exact ⟨n1, Nat.le_refl _, by omega, HS2.out.keep (Kept.drew _ _), Kept.drew _ _⟩
  · intro i o t ho hd hi k a' wx hk hg hdf hts hoth hdeps
    obtain ⟨m, hm1, hm2, hst, hbut⟩ := hg
    have hlt := hst.lt
    have h5 : i = 0 ∨ i = 1 ∨ i = 2 ∨ i = 3 := by omega
    rcases h5 with rfl | rfl | rfl | rfl
    · obtain rfl := Option.some.inj ho
      obtain rfl := Option.some.inj hd
      have e0 : a'.tmps.getD 3 undef = (.pointer (some ⟨σ.b, 0, none⟩)) := tmp_of ((hoth 3 (by decide)).trans rfl)
      clear hoth hdeps hdf hts ho
      refine wp_via (fun K' hK => ?_)
      have HK := Lib.hid hK
      clear hK
      go_simp
      exact HK.out _ _ ⟨_, rfl, GStr.same hm1 hm2 hst hbut, Kept.refl _ _, rfl⟩
    · obtain rfl := Option.some.inj ho
      obtain rfl := Option.some.inj hd
      have hbx := hbut.heap HC.out (by omega)
      have g0 := cell_at (i := 0) hbx rfl
      have g1 := cell_at (i := 1) hbx rfl
      have g2 := cell_at (i := 2) hbx rfl
      have g3 := cell_at (i := 3) hbx rfl
      clear hbx
      have e0 : a'.tmps.getD 4 undef = .pointer (some ⟨bb, 0, none⟩) := tmp_of ((hoth 4 (by decide)).trans rfl)
      clear hoth hdeps hdf hts ho
      refine wp_via (fun K' hK => ?_)
      have HK := Lib.hid hK
      clear hK
      go_simp
      exact HK.out _ _ ⟨_, rfl, GStr.same hm1 hm2 hst hbut, Kept.refl _ _, rfl⟩
    · obtain rfl := Option.some.inj ho
      obtain rfl := Option.some.inj hd
      have e0 : a'.tmps.getD 3 undef = (.pointer (some ⟨σ.b, 0, none⟩)) := tmp_of ((hoth 3 (by decide)).trans rfl)
      clear hoth hdeps hdf hts ho
      refine wp_via (fun K' hK => ?_)
      have HK := Lib.hid hK
      clear hK
      go_simp
      exact HK.out _ _ ⟨_, rfl, GStr.same hm1 hm2 hst hbut, Kept.refl _ _, rfl⟩
    · obtain rfl := Option.some.inj ho
      obtain rfl := Option.some.inj hd
      have ep : a'.tmps.getD 18 undef = (.pointer (some ⟨σ.b, 0, none⟩)) := hdeps 2 (by decide) 18 rfl
      clear hoth hdeps hdf hts ho
      refine wp_via (fun K' hK => ?_)
      have HK := Lib.hid hK
      clear hK
      go_simp
      refine (range_any σ m 0 7 _ hst (by omega) (by omega) (by omega) (by omega)).mono ?_
      rintro e w2' ⟨v, m2, rfl, ⟨r, rfl, hr2⟩, hm3, hm4, hst2, hb2⟩
      exact HK.out _ _ ⟨_, rfl, GStr.call hm1 hm2 hbut hm3 (by omega) hst2 hb2, hb2, ⟨r, rfl, hr2⟩⟩
  · intro wx f hg hd
    obtain ⟨m, -, hm2, hst, hbut⟩ := hg
    have e16 : f 16 = (.pointer (some ⟨σ.b, 0, none⟩)) := hd 0 16 (by decide) rfl
    have e17 : f 17 = (.agg #[.slice a0 l0 c0, .slice a1 l1 c1, .slice a2 l2 c2, .slice a3 l3 c3]) := hd 1 17 (by decide) rfl
    obtain ⟨r, e19, hr1, hr2⟩ : PNum (fun r => 0 ≤ r ∧ r ≤ 7) (f 19) wx := hd 3 19 (by decide) rfl
    obtain ⟨M, rfl⟩ := Int.eq_ofNat_of_zero_le hr1
    have hM : M ≤ 12 := by omega
    rw [show dsts _ 4 = [16, 17, 18, 19] from by kernel_rfl]
    simp only [List.map_cons, List.map_nil, puts, Act.put, e16, e17, e19, List.drop_succ_cons, List.drop_zero]
    clear hd e16 e17 e19 hr1 hr2
    generalize f 18 = f18
    clear f
    have hlx := hst.lt
    have hkx := HK2.out.trans hbut
    have HBX := Lib.hid (HKB.out.trans hbut)
    have HPO := Lib.hid (postsOf_any a0 l0 c0 a1 l1 c1 a2 l2 c2 a3 l3 c3 b M σ m wx hst (by omega) hM (fun wy k => HBI1.out wy (HBX.out.trans k)) hc3 (fun wy k => HTAB.out wy (hkx.trans k)))
    have HCX := Lib.hid (hbut.heap HC.out (by omega))
    have HKX := Lib.hid hkx
    have hlbx : bb < wx.heap.size := (Array.getElem?_eq_some_iff.1 HCX.out).1
    clear hst hbut hkx HC HK2 HKB HS2 hlb
    go_wp2_with fail
    refine HPO.out.mono ?_
    rintro e w3 ⟨v, n3, rfl, ⟨xs, hxl, hacc⟩, -, hn4, hs3, hb3⟩
    have hn3 : n3 ≤ 100000 := by omega
    obtain ⟨ax, cx, rfl, hcx⟩ := hacc.form
    obtain ⟨ax', cx', hv, hsx⟩ := hacc.sl RPost.ok (by decide) (G := fun k => k ≠ σ.b) (fun _ h => h.elim) (fun k hk => by have := (hacc.lt k hk).1; omega)
    obtain ⟨lx, hlx2⟩ : ∃ m, m = xs.length := ⟨_, rfl⟩
    have HLX := Lib.hid hlx2
    rw [← hlx2] at hsx hxl hcx hv ⊢
    injection hv with q1 q2 q3
    subst q1 q3
    clear q2 hacc hlx2 HPO
    have HC := Lib.hid (hb3.heap HCX.out (by omega))
    have HK3 := Lib.hid (HKX.out.trans hb3)
    have HB3 := Lib.hid (HBX.out.trans hb3)
    have HS3 := Lib.hid hs3
    have HSX := Lib.hid hsx
    have hlb : bb < w3.heap.size := (Array.getElem?_eq_some_iff.1 HC.out).1
    clear HCX HKX HBX hsx hs3 hb3 hlbx hlx hn4 hm2
    go_wp2_with fail
    refine wp_region_inv 24 (by kernel_rfl) (by kernel_rfl) (by kernel_rfl) (GStr 10 σ n3 w3)
      (DL [PIs (.pointer (some ⟨σ.b, 0, none⟩)), PNum (fun _ => True), PIs (.pointer (some ⟨σ.b, 0, none⟩)), PRow σ [20, 50, 100, 0, -1], PNum (fun _ => True), PStrs σ [⟨#[112, 97]⟩, ⟨#[112, 98]⟩, ⟨#[65]⟩], PIs (.pointer (some ⟨σ.b, 0, none⟩)), PRow σ [0, 0, 1, 2], PNum (fun r => 0 ≤ r ∧ r < 3), PAt σ, PStr (fun r => r.size ≤ 1000000), PIs (.pointer (some ⟨σ.b, 0, none⟩)), PStr (fun r => r.size ≤ 1000000), PIs (.pointer (some ⟨σ.b, 0, none⟩)), PRow σ [0, 0, 1, 2, 9, -1], PNum (fun _ => True), PStrs σ [⟨#[97, 10]⟩, ⟨#[120]⟩, ⟨#[]⟩], PIs (.pointer (some ⟨σ.b, 0, none⟩)), PRow σ [0, 0, 0, 1, 2], PNum (fun r => 0 ≤ r ∧ r < 3), PAt σ, PStr (fun r => r.size ≤ 1000000), PPost, PNew σ w3.heap.size 58 #[.int .i64 0, .int .i64 0, .string ⟨#[]⟩, .string ⟨#[]⟩, .int .i64 0, .string ⟨#[]⟩]]) (fun w w' => But σ.b w w')
      (DL.keep (by simp only [List.forall_mem_cons, List.not_mem_nil, false_implies, implies_true, and_true]; exact ⟨PIs.stays _ _, PNum.stays _ _, PIs.stays _ _, PRow.stays _ _, PNum.stays _ _, PStrs.stays _ _, PIs.stays _ _, PRow.stays _ _, PNum.stays _ _, PAt.stays _, PStr.stays _ _, PIs.stays _ _, PStr.stays _ _, PIs.stays _ _, PRow.stays _ _, PNum.stays _ _, PStrs.stays _ _, PIs.stays _ _, PRow.stays _ _, PNum.stays _ _, PAt.stays _, PStr.stays _ _, PPost.stays _, PNew.stays _ _ _ _⟩)) ?_ ?_ ?_
    · exact ⟨n3, Nat.le_refl _, by omega, HS3.out.keep (Kept.drew _ _), Kept.drew _ _⟩
    · intro i o t ho hd hi k a' wx hk hg hdf hts hoth hdeps
      obtain ⟨m, hm1, hm2, hst, hbut⟩ := hg
      have hlt := hst.lt
      have h5 : i = 0 ∨ i = 1 ∨ i = 2 ∨ i = 3 ∨ i = 4 ∨ i = 5 ∨ i = 6 ∨ i = 7 ∨ i = 8 ∨ i = 9 ∨ i = 10 ∨ i = 11 ∨ i = 12 ∨ i = 13 ∨ i = 14 ∨ i = 15 ∨ i = 16 ∨ i = 17 ∨ i = 18 ∨ i = 19 ∨ i = 20 ∨ i = 21 ∨ i = 22 ∨ i = 23 := by omega
      rcases h5 with rfl | rfl | rfl | rfl | rfl | rfl | rfl | rfl | rfl | rfl | rfl | rfl | rfl | rfl | rfl | rfl | rfl | rfl | rfl | rfl | rfl | rfl | rfl | rfl
      · obtain rfl := Option.some.inj ho
        obtain rfl := Option.some.inj hd
        have e0 : a'.tmps.getD 3 undef = (.pointer (some ⟨σ.b, 0, none⟩)) := tmp_of ((hoth 3 (by decide)).trans rfl)
        clear hoth hdeps hdf hts ho
        refine wp_via (fun K' hK => ?_)
        have HK := Lib.hid hK
        clear hK
        go_simp
        exact HK.out _ _ ⟨_, rfl, GStr.same hm1 hm2 hst hbut, Kept.refl _ _, rfl⟩
      · obtain rfl := Option.some.inj ho
        obtain rfl := Option.some.inj hd
        have ep : a'.tmps.getD 21 undef = (.pointer (some ⟨σ.b, 0, none⟩)) := hdeps 0 (by decide) 21 rfl
        clear hoth hdeps hdf hts ho
        refine wp_via (fun K' hK => ?_)
        have HK := Lib.hid hK
        clear hK
        go_simp
        refine (range_any σ m 0 9 _ hst (by omega) (by omega) (by omega) (by omega)).mono ?_
        rintro e w2' ⟨v, m2, rfl, ⟨r, rfl, hr2⟩, hm3, hm4, hst2, hb2⟩
        exact HK.out _ _ ⟨_, rfl, GStr.call hm1 hm2 hbut hm3 (by omega) hst2 hb2, hb2, ⟨r, rfl, trivial⟩⟩
      · obtain rfl := Option.some.inj ho
        obtain rfl := Option.some.inj hd
        have e0 : a'.tmps.getD 3 undef = (.pointer (some ⟨σ.b, 0, none⟩)) := tmp_of ((hoth 3 (by decide)).trans rfl)
        clear hoth hdeps hdf hts ho
        refine wp_via (fun K' hK => ?_)
        have HK := Lib.hid hK
        clear hK
        go_simp
        exact HK.out _ _ ⟨_, rfl, GStr.same hm1 hm2 hst hbut, Kept.refl _ _, rfl⟩
      · obtain rfl := Option.some.inj ho
        obtain rfl := Option.some.inj hd
        clear hoth hdeps hdf hts ho
        refine wp_via (fun K' hK => ?_)
        have HK := Lib.hid hK
        clear hK
        go_simp
        exact HK.out _ _ ⟨_, rfl, GStr.alloc _ hm1 hm2 hst hbut, Kept.alloc _ _ _, ⟨wx.heap.size, rfl, Nat.ne_of_gt hlt, heap_at _ _ _ rfl⟩⟩
      · obtain rfl := Option.some.inj ho
        obtain rfl := Option.some.inj hd
        have ep : a'.tmps.getD 23 undef = (.pointer (some ⟨σ.b, 0, none⟩)) := hdeps 2 (by decide) 23 rfl
        obtain ⟨br, er, hrn, hr⟩ : PRow σ [20, 50, 100, 0, -1] (a'.tmps.getD 24 undef) wx := hdeps 3 (by decide) 24 rfl
        replace er : a'.tmps.getD 24 undef = .slice (some ⟨br, 0, none⟩) 5 5 := er
        clear hoth hdeps hdf hts ho
        refine wp_via (fun K' hK => ?_)
        have HK := Lib.hid hK
        clear hK
        go_simp
        refine (pick_any σ m _ _ _ [20, 50, 100, 0, -1] _ hst (by omega) (Sl.lit_ints _ hr rfl hrn) (by simp) (by simp)).mono ?_
        rintro e w2' ⟨v, m2, rfl, ⟨r, rfl, hr2⟩, hm3, hm4, hst2, hb2⟩
        exact HK.out _ _ ⟨_, rfl, GStr.call hm1 hm2 hbut hm3 (by omega) hst2 hb2, hb2, ⟨r, rfl, trivial⟩⟩
      · obtain rfl := Option.some.inj ho
        obtain rfl := Option.some.inj hd
        clear hoth hdeps hdf hts ho
        refine wp_via (fun K' hK => ?_)
        have HK := Lib.hid hK
        clear hK
        go_simp
        exact HK.out _ _ ⟨_, rfl, GStr.alloc _ hm1 hm2 hst hbut, Kept.alloc _ _ _, ⟨wx.heap.size, rfl, Nat.ne_of_gt hlt, heap_at _ _ _ rfl⟩⟩
      · obtain rfl := Option.some.inj ho
        obtain rfl := Option.some.inj hd
        have e0 : a'.tmps.getD 3 undef = (.pointer (some ⟨σ.b, 0, none⟩)) := tmp_of ((hoth 3 (by decide)).trans rfl)
        clear hoth hdeps hdf hts ho
        refine wp_via (fun K' hK => ?_)
        have HK := Lib.hid hK
        clear hK
        go_simp
        exact HK.out _ _ ⟨_, rfl, GStr.same hm1 hm2 hst hbut, Kept.refl _ _, rfl⟩
      · obtain rfl := Option.some.inj ho
        obtain rfl := Option.some.inj hd
        clear hoth hdeps hdf hts ho
        refine wp_via (fun K' hK => ?_)
        have HK := Lib.hid hK
        clear hK
        go_simp
        exact HK.out _ _ ⟨_, rfl, GStr.alloc _ hm1 hm2 hst hbut, Kept.alloc _ _ _, ⟨wx.heap.size, rfl, Nat.ne_of_gt hlt, heap_at _ _ _ rfl⟩⟩
      · obtain rfl := Option.some.inj ho
        obtain rfl := Option.some.inj hd
        have ep : a'.tmps.getD 27 undef = (.pointer (some ⟨σ.b, 0, none⟩)) := hdeps 6 (by decide) 27 rfl
        obtain ⟨br, er, hrn, hr⟩ : PRow σ [0, 0, 1, 2] (a'.tmps.getD 28 undef) wx := hdeps 7 (by decide) 28 rfl
        replace er : a'.tmps.getD 28 undef = .slice (some ⟨br, 0, none⟩) 4 4 := er
        clear hoth hdeps hdf hts ho
        refine wp_via (fun K' hK => ?_)
        have HK := Lib.hid hK
        clear hK
        go_simp
        refine (pick_any σ m _ _ _ [0, 0, 1, 2] _ hst (by omega) (Sl.lit_ints _ hr rfl hrn) (by simp) (by simp)).mono ?_
        rintro e w2' ⟨v, m2, rfl, ⟨r, rfl, hr2⟩, hm3, hm4, hst2, hb2⟩
        exact HK.out _ _ ⟨_, rfl, GStr.call hm1 hm2 hbut hm3 (by omega) hst2 hb2, hb2, ⟨r, rfl, by simp at hr2; omega⟩⟩
      · obtain rfl := Option.some.inj ho
        obtain rfl := Option.some.inj hd
        obtain ⟨br, er, hrn, hr⟩ : PStrs σ [⟨#[112, 97]⟩, ⟨#[112, 98]⟩, ⟨#[65]⟩] (a'.tmps.getD 26 undef) wx := hdeps 5 (by decide) 26 rfl
        replace er : a'.tmps.getD 26 undef = .slice (some ⟨br, 0, none⟩) 3 3 := er
        obtain ⟨r, e23, hr1, hr2⟩ : PNum (fun r => 0 ≤ r ∧ r < 3) (a'.tmps.getD 29 undef) wx := hdeps 8 (by decide) 29 rfl
        obtain ⟨j, rfl⟩ := Int.eq_ofNat_of_zero_le hr1
        have hj : j < 3 := by omega
        obtain ⟨y, hcy, hyz⟩ : ∃ y : ByteArray, wx.cell? ⟨br, j, none⟩ = some (.string y) ∧ y.size ≤ 1000000 := by
          obtain ⟨b', off', y, ha', -, hcy, hyz, -, -, -⟩ := (Sl.lit_strs (F := fun _ => True) [⟨#[112, 97]⟩, ⟨#[112, 98]⟩, ⟨#[65]⟩] hr rfl trivial).atStr (k := j) (by simp; omega)
          simp only [Option.some.injEq, Addr.mk.injEq] at ha'
          obtain ⟨rfl, rfl, -⟩ := ha'
          exact ⟨y, by simpa using hcy, hyz⟩
        clear hr
        clear hoth hdeps hdf hts ho
        refine wp_via (fun K' hK => ?_)
        have HK := Lib.hid hK
        clear hK
        go_simp
        exact HK.out _ _ ⟨_, rfl, GStr.same hm1 hm2 hst hbut, Kept.refl _ _, ⟨br, j, y, rfl, hrn, hcy, hyz⟩⟩
      · obtain rfl := Option.some.inj ho
        obtain rfl := Option.some.inj hd
        obtain ⟨b', j, y, e24, hbn, hu, hyz⟩ : PAt σ (a'.tmps.getD 30 undef) wx := hdeps 9 (by decide) 30 rfl
        clear hoth hdeps hdf hts ho
        refine wp_via (fun K' hK => ?_)
        have HK := Lib.hid hK
        clear hK
        go_simp
        exact HK.out _ _ ⟨_, rfl, GStr.same hm1 hm2 hst hbut, Kept.refl _ _, ⟨y, rfl, hyz⟩⟩
      · obtain rfl := Option.some.inj ho
        obtain rfl := Option.some.inj hd
        have e0 : a'.tmps.getD 3 undef = (.pointer (some ⟨σ.b, 0, none⟩)) := tmp_of ((hoth 3 (by decide)).trans rfl)
        clear hoth hdeps hdf hts ho
        refine wp_via (fun K' hK => ?_)
        have HK := Lib.hid hK
        clear hK
        go_simp
        exact HK.out _ _ ⟨_, rfl, GStr.same hm1 hm2 hst hbut, Kept.refl _ _, rfl⟩
      · obtain rfl := Option.some.inj ho
        obtain rfl := Option.some.inj hd
        have e0 : a'.tmps.getD 32 undef = (.pointer (some ⟨σ.b, 0, none⟩)) := hdeps 11 (by decide) 32 rfl
        clear hoth hdeps hdf hts ho
        refine wp_via (fun K' hK => ?_)
        have HK := Lib.hid hK
        clear hK
        go_simp
        refine (who_any σ m _ hst (by omega)).mono ?_
        rintro e w2' ⟨v, m2, rfl, hq, hm3, hm4, hst2, hb2⟩
        exact HK.out _ _ ⟨_, rfl, GStr.call hm1 hm2 hbut hm3 (by omega) hst2 hb2, hb2, hq⟩
      · obtain rfl := Option.some.inj ho
        obtain rfl := Option.some.inj hd
        have e0 : a'.tmps.getD 3 undef = (.pointer (some ⟨σ.b, 0, none⟩)) := tmp_of ((hoth 3 (by decide)).trans rfl)
        clear hoth hdeps hdf hts ho
        refine wp_via (fun K' hK => ?_)
        have HK := Lib.hid hK
        clear hK
        go_simp
        exact HK.out _ _ ⟨_, rfl, GStr.same hm1 hm2 hst hbut, Kept.refl _ _, rfl⟩
      · obtain rfl := Option.some.inj ho
        obtain rfl := Option.some.inj hd
        clear hoth hdeps hdf hts ho
        refine wp_via (fun K' hK => ?_)
        have HK := Lib.hid hK
        clear hK
        go_simp
        exact HK.out _ _ ⟨_, rfl, GStr.alloc _ hm1 hm2 hst hbut, Kept.alloc _ _ _, ⟨wx.heap.size, rfl, Nat.ne_of_gt hlt, heap_at _ _ _ rfl⟩⟩
      · obtain rfl := Option.some.inj ho
        obtain rfl := Option.some.inj hd
        have ep : a'.tmps.getD 34 undef = (.pointer (some ⟨σ.b, 0, none⟩)) := hdeps 13 (by decide) 34 rfl
        obtain ⟨br, er, hrn, hr⟩ : PRow σ [0, 0, 1, 2, 9, -1] (a'.tmps.getD 35 undef) wx := hdeps 14 (by decide) 35 rfl
        replace er : a'.tmps.getD 35 undef = .slice (some ⟨br, 0, none⟩) 6 6 := er
        clear hoth hdeps hdf hts ho
        refine wp_via (fun K' hK => ?_)
        have HK := Lib.hid hK
        clear hK
        go_simp
        refine (pick_any σ m _ _ _ [0, 0, 1, 2, 9, -1] _ hst (by omega) (Sl.lit_ints _ hr rfl hrn) (by simp) (by simp)).mono ?_
        rintro e w2' ⟨v, m2, rfl, ⟨r, rfl, hr2⟩, hm3, hm4, hst2, hb2⟩
        exact HK.out _ _ ⟨_, rfl, GStr.call hm1 hm2 hbut hm3 (by omega) hst2 hb2, hb2, ⟨r, rfl, trivial⟩⟩
      · obtain rfl := Option.some.inj ho
        obtain rfl := Option.some.inj hd
        clear hoth hdeps hdf hts ho
        refine wp_via (fun K' hK => ?_)
        have HK := Lib.hid hK
        clear hK
        go_simp
        exact HK.out _ _ ⟨_, rfl, GStr.alloc _ hm1 hm2 hst hbut, Kept.alloc _ _ _, ⟨wx.heap.size, rfl, Nat.ne_of_gt hlt, heap_at _ _ _ rfl⟩⟩
      · obtain rfl := Option.some.inj ho
        obtain rfl := Option.some.inj hd
        have e0 : a'.tmps.getD 3 undef = (.pointer (some ⟨σ.b, 0, none⟩)) := tmp_of ((hoth 3 (by decide)).trans rfl)
        clear hoth hdeps hdf hts ho
        refine wp_via (fun K' hK => ?_)
        have HK := Lib.hid hK
        clear hK
        go_simp
        exact HK.out _ _ ⟨_, rfl, GStr.same hm1 hm2 hst hbut, Kept.refl _ _, rfl⟩
      · obtain rfl := Option.some.inj ho
        obtain rfl := Option.some.inj hd
        clear hoth hdeps hdf hts ho
        refine wp_via (fun K' hK => ?_)
        have HK := Lib.hid hK
        clear hK
        go_simp
        exact HK.out _ _ ⟨_, rfl, GStr.alloc _ hm1 hm2 hst hbut, Kept.alloc _ _ _, ⟨wx.heap.size, rfl, Nat.ne_of_gt hlt, heap_at _ _ _ rfl⟩⟩
      · obtain rfl := Option.some.inj ho
        obtain rfl := Option.some.inj hd
        have ep : a'.tmps.getD 38 undef = (.pointer (some ⟨σ.b, 0, none⟩)) := hdeps 17 (by decide) 38 rfl
        obtain ⟨br, er, hrn, hr⟩ : PRow σ [0, 0, 0, 1, 2] (a'.tmps.getD 39 undef) wx := hdeps 18 (by decide) 39 rfl
        replace er : a'.tmps.getD 39 undef = .slice (some ⟨br, 0, none⟩) 5 5 := er
        clear hoth hdeps hdf hts ho
        refine wp_via (fun K' hK => ?_)
        have HK := Lib.hid hK
        clear hK
        go_simp
        refine (pick_any σ m _ _ _ [0, 0, 0, 1, 2] _ hst (by omega) (Sl.lit_ints _ hr rfl hrn) (by simp) (by simp)).mono ?_
        rintro e w2' ⟨v, m2, rfl, ⟨r, rfl, hr2⟩, hm3, hm4, hst2, hb2⟩
        exact HK.out _ _ ⟨_, rfl, GStr.call hm1 hm2 hbut hm3 (by omega) hst2 hb2, hb2, ⟨r, rfl, by simp at hr2; omega⟩⟩
      · obtain rfl := Option.some.inj ho
        obtain rfl := Option.some.inj hd
        obtain ⟨br, er, hrn, hr⟩ : PStrs σ [⟨#[97, 10]⟩, ⟨#[120]⟩, ⟨#[]⟩] (a'.tmps.getD 37 undef) wx := hdeps 16 (by decide) 37 rfl
        replace er : a'.tmps.getD 37 undef = .slice (some ⟨br, 0, none⟩) 3 3 := er
        obtain ⟨r, e23, hr1, hr2⟩ : PNum (fun r => 0 ≤ r ∧ r < 3) (a'.tmps.getD 40 undef) wx := hdeps 19 (by decide) 40 rfl
        obtain ⟨j, rfl⟩ := Int.eq_ofNat_of_zero_le hr1
        have hj : j < 3 := by omega
        obtain ⟨y, hcy, hyz⟩ : ∃ y : ByteArray, wx.cell? ⟨br, j, none⟩ = some (.string y) ∧ y.size ≤ 1000000 := by
          obtain ⟨b', off', y, ha', -, hcy, hyz, -, -, -⟩ := (Sl.lit_strs (F := fun _ => True) [⟨#[97, 10]⟩, ⟨#[120]⟩, ⟨#[]⟩] hr rfl trivial).atStr (k := j) (by simp; omega)
          simp only [Option.some.injEq, Addr.mk.injEq] at ha'
          obtain ⟨rfl, rfl, -⟩ := ha'
          exact ⟨y, by simpa using hcy, hyz⟩
        clear hr
        clear hoth hdeps hdf hts ho
        refine wp_via (fun K' hK => ?_)
        have HK := Lib.hid hK
        clear hK
        go_simp
        exact HK.out _ _ ⟨_, rfl, GStr.same hm1 hm2 hst hbut, Kept.refl _ _, ⟨br, j, y, rfl, hrn, hcy, hyz⟩⟩
      · obtain rfl := Option.some.inj ho
        obtain rfl := Option.some.inj hd
        obtain ⟨b', j, y, e24, hbn, hu, hyz⟩ : PAt σ (a'.tmps.getD 41 undef) wx := hdeps 20 (by decide) 41 rfl
        clear hoth hdeps hdf hts ho
        refine wp_via (fun K' hK => ?_)
        have HK := Lib.hid hK
        clear hK
        go_simp
        exact HK.out _ _ ⟨_, rfl, GStr.same hm1 hm2 hst hbut, Kept.refl _ _, ⟨y, rfl, hyz⟩⟩
      · obtain rfl := Option.some.inj ho
        obtain rfl := Option.some.inj hd
        obtain ⟨z22, e22, -⟩ : PNum (fun _ => True) (a'.tmps.getD 22 undef) wx := hdeps 1 (by decide) 22 rfl
        obtain ⟨z25, e25, -⟩ : PNum (fun _ => True) (a'.tmps.getD 25 undef) wx := hdeps 4 (by decide) 25 rfl
        obtain ⟨z36, e36, -⟩ : PNum (fun _ => True) (a'.tmps.getD 36 undef) wx := hdeps 15 (by decide) 36 rfl
        obtain ⟨y31, e31, hy31⟩ : PStr (fun r => r.size ≤ 1000000) (a'.tmps.getD 31 undef) wx := hdeps 10 (by decide) 31 rfl
        obtain ⟨y33, e33, hy33⟩ : PStr (fun r => r.size ≤ 1000000) (a'.tmps.getD 33 undef) wx := hdeps 12 (by decide) 33 rfl
        obtain ⟨y42, e42, hy42⟩ : PStr (fun r => r.size ≤ 1000000) (a'.tmps.getD 42 undef) wx := hdeps 21 (by decide) 42 rfl
        have g22 : a'.tmps[22]?.getD undef = .int .i64 z22 := by rw [← Array.getD_eq_getD_getElem?]; exact e22
        have g25 : a'.tmps[25]?.getD undef = .int .i64 z25 := by rw [← Array.getD_eq_getD_getElem?]; exact e25
        have g31 : a'.tmps[31]?.getD undef = .string y31 := by rw [← Array.getD_eq_getD_getElem?]; exact e31
        have g33 : a'.tmps[33]?.getD undef = .string y33 := by rw [← Array.getD_eq_getD_getElem?]; exact e33
        have g36 : a'.tmps[36]?.getD undef = .int .i64 z36 := by rw [← Array.getD_eq_getD_getElem?]; exact e36
        have g42 : a'.tmps[42]?.getD undef = .string y42 := by rw [← Array.getD_eq_getD_getElem?]; exact e42
        clear hoth hdeps hdf hts ho
        refine wp_via (fun K' hK => ?_)
        have HK := Lib.hid hK
        clear hK
        go_simp
        exact HK.out _ _ ⟨_, rfl, GStr.same hm1 hm2 hst hbut, Kept.refl _ _, ⟨z22, z25, y31, y33, z36, y42, rfl, hy31, hy33, hy42⟩⟩
      · obtain rfl := Option.some.inj ho
        obtain rfl := Option.some.inj hd
        have hszx := hbut.size
        clear hoth hdeps hdf hts ho
        refine wp_via (fun K' hK => ?_)
        have HK := Lib.hid hK
        clear hK
        go_simp
        exact HK.out _ _ ⟨_, rfl, GStr.alloc _ hm1 hm2 hst hbut, Kept.alloc _ _ _, ⟨wx.heap.size, rfl, hszx, Nat.ne_of_gt hlt, heap_at _ _ _ rfl⟩⟩
    · intro wx f hg hd
      obtain ⟨m, -, hm2, hst, hbut⟩ := hg
      obtain ⟨z22, z25, y31, y33, z36, y42, e43, hps⟩ : PPost (f 43) wx := hd 22 43 (by decide) rfl
      obtain ⟨pb, e6, hpb1, hpb2, hpb3⟩ : PNew σ w3.heap.size 58 #[.int .i64 0, .int .i64 0, .string ⟨#[]⟩, .string ⟨#[]⟩, .int .i64 0, .string ⟨#[]⟩] (f 6) wx := hd 23 6 (by decide) rfl
      clear hd
      rw [show dsts _ 24 = [21, 22, 23, 24, 25, 26, 27, 28, 29, 30, 31, 32, 33, 34, 35, 36, 37, 38, 39, 40, 41, 42, 43, 6] from by kernel_rfl]
      simp only [List.map_cons, List.map_nil, puts, Act.put, e43, e6, List.drop_succ_cons, List.drop_zero]
      clear e43 e6
      generalize f 21 = f21
      generalize f 22 = f22
      generalize f 23 = f23
      generalize f 24 = f24
      generalize f 25 = f25
      generalize f 26 = f26
      generalize f 27 = f27
      generalize f 28 = f28
      generalize f 29 = f29
      generalize f 30 = f30
      generalize f 31 = f31
      generalize f 32 = f32
      generalize f 33 = f33
      generalize f 34 = f34
      generalize f 35 = f35
      generalize f 36 = f36
      generalize f 37 = f37
      generalize f 38 = f38
      generalize f 39 = f39
      generalize f 40 = f40
      generalize f 41 = f41
      generalize f 42 = f42
      clear f
      have q0 := cell_at (i := 0) hpb3 rfl
      have q1 := cell_at (i := 1) hpb3 rfl
      have q2 := cell_at (i := 2) hpb3 rfl
      have q3 := cell_at (i := 3) hpb3 rfl
      have q4 := cell_at (i := 4) hpb3 rfl
      have q5 := cell_at (i := 5) hpb3 rfl
      have f0 := frozen_at (i := 0) hpb3
      have f1 := frozen_at (i := 1) hpb3
      have f2 := frozen_at (i := 2) hpb3
      have f3 := frozen_at (i := 3) hpb3
      have f4 := frozen_at (i := 4) hpb3
      have f5 := frozen_at (i := 5) hpb3
      have hblk := (heap_setCell_at _ pb 5 (.string y42) _ _ _ (heap_setCell_at _ pb 4 (.int .i64 z36) _ _ _ (heap_setCell_at _ pb 3 (.string y33) _ _ _ (heap_setCell_at _ pb 2 (.string y31) _ _ _ (heap_setCell_at _ pb 1 (.int .i64 z25) _ _ _ (heap_setCell_at _ pb 0 (.int .i64 z22) _ _ _ hpb3))))))
      simp only [List.setIfInBounds_toArray, List.set_cons_zero, List.set_cons_succ] at hblk
      have hbS : But σ.b w3 ((((((wx.setCell ⟨pb, 0, none⟩ (.int .i64 z22)).setCell ⟨pb, 1, none⟩ (.int .i64 z25)).setCell ⟨pb, 2, none⟩ (.string y31)).setCell ⟨pb, 3, none⟩ (.string y33)).setCell ⟨pb, 4, none⟩ (.int .i64 z36)).setCell ⟨pb, 5, none⟩ (.string y42)) := ((((((hbut.then_setNew ⟨pb, 0, none⟩ (.int .i64 z22) hpb1).then_setNew ⟨pb, 1, none⟩ (.int .i64 z25) hpb1).then_setNew ⟨pb, 2, none⟩ (.string y31) hpb1).then_setNew ⟨pb, 3, none⟩ (.string y33) hpb1).then_setNew ⟨pb, 4, none⟩ (.int .i64 z36) hpb1).then_setNew ⟨pb, 5, none⟩ (.string y42) hpb1)
      have HBLK := Lib.hid hblk
      have HBS := Lib.hid hbS
      clear hblk hbS hst hbut hm2 hpb1 hpb2 hpb3
      go_upto_region 5 with fail
      clear q0 q1 q2 q3 q4 q5 f0 f1 f2 f3 f4 f5
      generalize ((((((wx.setCell ⟨pb, 0, none⟩ (.int .i64 z22)).setCell ⟨pb, 1, none⟩ (.int .i64 z25)).setCell ⟨pb, 2, none⟩ (.string y31)).setCell ⟨pb, 3, none⟩ (.string y33)).setCell ⟨pb, 4, none⟩ (.int .i64 z36)).setCell ⟨pb, 5, none⟩ (.string y42)) = w5 at *
      have hblk := HBLK.out
      have hbS := HBS.out
      clear HBLK HBS
      have HB := Lib.hid (fun (wy : World) (k : All w5 wy) => (show BoardAt bb (.slice a0 l0 c0) (.slice a1 l1 c1) (.slice a2 l2 c2) (.slice a3 l3 c3) wy from by have h := k.heap (hbS.heap HC.out (by omega)) trivial; exact ⟨cell_at (i := 0) h rfl, cell_at (i := 1) h rfl, cell_at (i := 2) h rfl, cell_at (i := 3) h rfl⟩))
      have HP := Lib.hid (fun (wy : World) (k : All w5 wy) => (⟨k.cell (cell_at (i := 0) hblk rfl) trivial, k.cell (cell_at (i := 1) hblk rfl) trivial, k.cell (cell_at (i := 2) hblk rfl) trivial, k.cell (cell_at (i := 3) hblk rfl) trivial, k.cell (cell_at (i := 4) hblk rfl) trivial, k.cell (cell_at (i := 5) hblk rfl) trivial⟩ : _ ∧ _ ∧ _ ∧ _ ∧ _ ∧ _))
      have HI := Lib.hid (fun (wy : World) (k : All w5 wy) => (HBI1.out w5 (HB3.out.trans hbS)).keep k)
      have HX := Lib.hid (fun (wy : World) (k : All w5 wy) => ((HSX.out.keep RPost.ok hbS).mono RPost.ok (fun _ _ => trivial)).keep RPost.ok k)
      have HTB := Lib.hid (fun (wy : World) (k : All w5 wy) => HTAB.out wy ((HK3.out.trans hbS).trans (Kept.all k)))
      have Hend := Lib.hid (show ∀ wy, All w5 wy → Below w.heap.size w wy from fun wy hw => ((HK3.out.trans hbS).trans (Kept.all hw)).below (Nat.le_refl _) (fun k hk => by have := Hσ.out; omega))
      have HA := Lib.hid (fun (wy : World) (k : All w5 wy) => add_any a0 l0 c0 a1 l1 c1 a2 l2 c2 a3 l3 c3 b ax lx cx xs z22 z25 y31 y33 z36 y42 wy (HI.out wy k) (HX.out wy k) (by omega) hcx hps (HTB.out wy k))
      have HPF := Lib.hid (fun (wy : World) (k : All w5 wy) => postsFault_any a0 l0 c0 a1 l1 c1 a2 l2 c2 a3 l3 c3 b ax lx cx xs wy (HI.out wy k) hc3 (HX.out wy k) (by omega) hcx (HTB.out wy k))
      have HCP := Lib.hid (fun (wy : World) (k : All w5 wy) => checkPosts_any a0 l0 c0 a1 l1 c1 a2 l2 c2 a3 l3 c3 b ax lx cx xs wy (HI.out wy k) (HX.out wy k) (by omega) hcx (HTB.out wy k))
      have HPO := Lib.hid (fun (wy : World) (k : All w5 wy) => postOf_any a0 l0 c0 a1 l1 c1 a2 l2 c2 a3 l3 c3 b ax lx cx xs z22 z25 y31 y33 z36 y42 wy (HI.out wy k) (HX.out wy k) (by omega) hps (HTB.out wy k))
      obtain ⟨py, hpy⟩ : ∃ x : Post6, x = ⟨z22, z25, y31, y33, z36, y42⟩ := ⟨_, rfl⟩
      obtain ⟨fe, hfe⟩ : ∃ x, x = postsF b xs := ⟨_, rfl⟩
      have HFE := Lib.hid hfe
      have HPY := Lib.hid hpy
      clear hfe hpy hbS HC HS3 HK3 HB3 HBI1 HSX HTAB hlb hps hblk hc3 HI HX HTB
      obtain ⟨e0, e1, e2, e3⟩ := HB.out _ (Kept.refl _ _)
      obtain ⟨p0, p1, p2, p3, p4, p5⟩ := HP.out _ (Kept.refl _ _)
      go_wp2_with fail
      refine (HA.out _ (Kept.refl _ _)).mono ?_
      rintro e w4 ⟨hbad, hgood, hw4⟩
      rw [← HPY.out] at hbad hgood
      clear e0 e1 e2 e3 p0 p1 p2 p3 p4 p5 HA
      obtain ⟨e0, e1, e2, e3⟩ := HB.out _ hw4
      obtain ⟨p0, p1, p2, p3, p4, p5⟩ := HP.out _ hw4
      by_cases hf0 : fe = 0
      · subst hf0
        rw [addE_ok b xs py HFE.out.symm] at hbad hgood
        obtain ⟨pe, hpe⟩ : ∃ x, x = postOfE b xs py := ⟨_, rfl⟩
        rw [← hpe] at hbad hgood
        have HPE := Lib.hid hpe
        clear hpe
        by_cases hp0 : pe = 0
        · subst hp0
          obtain ⟨q, c, rfl, hac⟩ := hgood rfl
          clear hbad hgood
          obtain ⟨q', c', hv, hs9⟩ := hac.sl RPost.ok (by decide) (G := fun _ => True) (fun _ h => h.elim) (fun _ _ => trivial)
          obtain ⟨ly, hly⟩ : ∃ m, m = (xs ++ [numbered xs py]).length := ⟨_, rfl⟩
          have hlyb : ly ≤ 100 := by have := HLX.out; rw [hly]; simp; omega
          rw [← hly] at hs9 hv ⊢
          injection hv with q1 q2 q3
          subst q1 q3
          clear q2 hac
          have HS9 := Lib.hid hs9
          have HLY := Lib.hid hly
          clear hs9 hly
          go_wp2_with fail
          refine (HPF.out _ hw4).mono ?_
          rintro e w5 ⟨rfl, hw5⟩
          rw [← HFE.out]
          have hw45 := hw5
          replace hw5 := hw4.trans hw5
          clear e0 e1 e2 e3 p0 p1 p2 p3 p4 p5
          obtain ⟨e0, e1, e2, e3⟩ := HB.out _ hw5
          obtain ⟨p0, p1, p2, p3, p4, p5⟩ := HP.out _ hw5
          go_wp2_with fail
          refine (HCP.out _ hw5).mono ?_
          rintro e w6 ⟨rfl, hw6⟩
          rw [← HFE.out]
          have hw56 := hw6
          replace hw6 := hw5.trans hw6
          clear e0 e1 e2 e3 p0 p1 p2 p3 p4 p5
          obtain ⟨e0, e1, e2, e3⟩ := HB.out _ hw6
          obtain ⟨p0, p1, p2, p3, p4, p5⟩ := HP.out _ hw6
          go_wp2_with fail
          refine (HPO.out _ hw6).mono ?_
          rintro e w7 ⟨-, hgood, hw7⟩
          rw [← HPY.out, ← HPE.out] at hgood
          obtain ⟨q8, c8, rfl, hac⟩ := hgood rfl
          clear hgood
          obtain ⟨q8', c8', hv, hs8⟩ := hac.sl RPost.ok (by decide) (G := fun _ => True) (fun _ h => h.elim) (fun _ _ => trivial)
          rw [← HLY.out] at hs8 hv ⊢
          injection hv with q1 q2 q3
          subst q1 q3
          clear q2 hac
          have HS8 := Lib.hid hs8
          clear hs8
          go_wp2_with fail
          refine (equalPost_same q ly c q8 ly c8 (xs ++ [numbered xs py]) _ (HS9.out.keep RPost.ok ((hw45.trans hw56).trans hw7)) HS8.out (by omega)).mono ?_
          rintro e w8 ⟨rfl, hw8⟩
          replace hw7 := hw6.trans hw7
          go_wp2_with fail
          refine (talked_any _).mono ?_
          rintro e w9 ⟨rfl, hw9⟩
          go_wp2_with fail
          go_ret
          exact ⟨rfl, Hend.out _ ((hw7.trans hw8).trans hw9)⟩
        · have hpz : (pe == 0) = false := by simpa using hp0
          have he := hbad hp0
          subst he
          clear hbad hgood
          go_wp2_with fail
          refine (HPF.out _ hw4).mono ?_
          rintro e w5 ⟨rfl, hw5⟩
          rw [← HFE.out]
          have hw45 := hw5
          replace hw5 := hw4.trans hw5
          clear e0 e1 e2 e3 p0 p1 p2 p3 p4 p5
          obtain ⟨e0, e1, e2, e3⟩ := HB.out _ hw5
          obtain ⟨p0, p1, p2, p3, p4, p5⟩ := HP.out _ hw5
          go_wp2_with fail
          refine (HCP.out _ hw5).mono ?_
          rintro e w6 ⟨rfl, hw6⟩
          rw [← HFE.out]
          have hw56 := hw6
          replace hw6 := hw5.trans hw6
          clear e0 e1 e2 e3 p0 p1 p2 p3 p4 p5
          obtain ⟨e0, e1, e2, e3⟩ := HB.out _ hw6
          obtain ⟨p0, p1, p2, p3, p4, p5⟩ := HP.out _ hw6
          go_wp2_with fail
          refine (HPO.out _ hw6).mono ?_
          rintro e w7 ⟨hbad, -, hw7⟩
          rw [← HPY.out, ← HPE.out] at hbad
          have he := hbad hp0
          subst he
          clear hbad
          have hpp : (pe == pe) = true := by simp
          clear hp0
          go_wp2_with fail
          refine (equalPost_same none 0 0 none 0 0 [] _ (nilPosts _) (nilPosts _) (by omega)).mono ?_
          rintro e w8 ⟨rfl, hw8⟩
          replace hw7 := hw6.trans hw7
          go_wp2_with fail
          refine (talked_any _).mono ?_
          rintro e w9 ⟨rfl, hw9⟩
          go_wp2_with fail
          go_ret
          exact ⟨rfl, Hend.out _ ((hw7.trans hw8).trans hw9)⟩
      · have hfz : (fe == 0) = false := by simpa using hf0
        have he := hbad (by rw [addE_bad b xs py (fun h => hf0 (HFE.out.trans h)), ← HFE.out]; exact hf0)
        rw [addE_bad b xs py (fun h => hf0 (HFE.out.trans h)), ← HFE.out] at he
        subst he
        clear hbad hgood hf0
        have hff : (fe == fe) = true := by simp
        have hfn : (fe != fe) = false := by simp
        go_wp2_with fail
        refine (HPF.out _ hw4).mono ?_
        rintro e w5 ⟨rfl, hw5⟩
        rw [← HFE.out]
        have hw45 := hw5
        replace hw5 := hw4.trans hw5
        clear e0 e1 e2 e3 p0 p1 p2 p3 p4 p5
        obtain ⟨e0, e1, e2, e3⟩ := HB.out _ hw5
        obtain ⟨p0, p1, p2, p3, p4, p5⟩ := HP.out _ hw5
        go_wp2_with fail
        refine (HCP.out _ hw5).mono ?_
        rintro e w6 ⟨rfl, hw6⟩
        rw [← HFE.out]
        have hw56 := hw6
        replace hw6 := hw5.trans hw6
        clear e0 e1 e2 e3 p0 p1 p2 p3 p4 p5
        obtain ⟨e0, e1, e2, e3⟩ := HB.out _ hw6
        obtain ⟨p0, p1, p2, p3, p4, p5⟩ := HP.out _ hw6
        go_wp2_with fail
        refine (equalPost_same none 0 0 none 0 0 [] _ (nilPosts _) (nilPosts _) (by omega)).mono ?_
        rintro e w8 ⟨rfl, hw8⟩
        go_wp2_with fail
        refine (talked_any _).mono ?_
        rintro e w9 ⟨rfl, hw9⟩
        go_wp2_with fail
        go_ret
        exact ⟨rfl, Hend.out _ ((hw6.trans hw8).trans hw9)⟩
end Go.Proofs.YtllkemadaemjeaaGreatDoor
