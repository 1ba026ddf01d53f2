/- CopyWorld of the reference. -/
import Derived.Test.YtgobnlgmbplggaaGreatDoorD2
namespace Go.Proofs.YtgobnlgmbplggaaGreatDoor
open Go.RowKit

/-- A right world comes back. -/
def WldG (B : Nat) (N : Nat → Nat) (w : World) (v : Value) : Prop := ∃ a0 n0 c0 a1 n1 c1 a2 n2 c2 a3 n3 c3, v = .agg #[.slice a0 n0 c0, .slice a1 n1 c1, .slice a2 n2 c2, .slice a3 n3 c3] ∧ Gd Θw B N w (.sl 1) (.slice a0 n0 c0) ∧ Gd Θw B N w (.sl 5) (.slice a1 n1 c1) ∧ Gd Θw B N w (.sl 6) (.slice a2 n2 c2) ∧ Gd Θw B N w (.sl 4) (.slice a3 n3 c3)
/-- The same, with the heap's size. -/
structure GenX (σ : St) (B : Nat) (N N' : Nat → Nat) (n c : Nat) (w w' : World) (m : Nat) : Prop where
  st : Str σ w' m
  lo : n ≤ m
  hi : m ≤ n + c
  kp : Kept (fun b => b < B ∧ b ≠ σ.b) w w'
  goes : Goes Θw B N w N' w'
  lt : B ≤ w'.heap.size
theorem GenX.up {σ : St} {B : Nat} {N N' : Nat → Nat} {n c c' m : Nat} {w w' : World} (h : GenX σ B N N' n c w w' m) (hc : c ≤ c') : GenX σ B N N' n c' w w' m := ⟨h.st, h.lo, Nat.le_trans h.hi (by omega), h.kp, h.goes, h.lt⟩
theorem GenX.fin {σ : St} {B : Nat} {N N' : Nat → Nat} {n c c' m rb : Nat} {w w' w'' : World} (h : GenX σ B N N' n c w w' m) (hf : Goes Θw B N' w' N' w'' ∧ Kept (fun b => b ≠ rb) w' w'') (hrb : B ≤ rb) (hσ : σ.b < B) (hc : c ≤ c') : GenX σ B N N' n c' w w'' m :=
  ⟨h.st.kept hf.2 (fun j hj => by omega), h.lo, Nat.le_trans h.hi (by omega), h.kp.trans2 hf.2 (fun x _ hx => by have := hx.1; omega), h.goes.trans hf.1, Nat.le_trans h.lt hf.2.size⟩
theorem cat_lit (a b : ByteArray) (la lb : Nat) (ha : a.size ≤ la) (hb : b.size ≤ lb) (hl : la + lb ≤ 9223372036854775807) : ∃ t : ByteArray, (∀ wx : World, (Op.stringOp .add a b).run Tryz.prog wx = .ok (.string t) wx) ∧ t.size ≤ la + lb := by
  exact ⟨a ++ b, fun wx => run_string_add_sum wx a b (by omega), by rw [ByteArray.size_append]; omega⟩
theorem wldFin {B : Nat} {N : Nat → Nat} {wo : World} {rb : Nat} {v0 v1 v2 v3 : Option Addr} {y0 t0 y1 t1 y2 t2 y3 t3 : Nat} (h : TB Θw B N wo rb 7 1) (g0 : Gd Θw B N wo (.sl 1) (.slice v0 y0 t0)) (g1 : Gd Θw B N wo (.sl 5) (.slice v1 y1 t1)) (g2 : Gd Θw B N wo (.sl 6) (.slice v2 y2 t2)) (g3 : Gd Θw B N wo (.sl 4) (.slice v3 y3 t3)) :
    WldG B N (wo.setCells rb 0 [.slice v0 y0 t0, .slice v1 y1 t1, .slice v2 y2 t2, .slice v3 y3 t3]) (.agg #[.slice v0 y0 t0, .slice v1 y1 t1, .slice v2 y2 t2, .slice v3 y3 t3]) ∧
    (Goes Θw B N wo N (wo.setCells rb 0 [.slice v0 y0 t0, .slice v1 y1 t1, .slice v2 y2 t2, .slice v3 y3 t3]) ∧ Kept (fun b => b ≠ rb) wo (wo.setCells rb 0 [.slice v0 y0 t0, .slice v1 y1 t1, .slice v2 y2 t2, .slice v3 y3 t3])) ∧
    ((((wo.setCell ⟨rb, 0, none⟩ (.slice v0 y0 t0)).setCell ⟨rb, 1, none⟩ (.slice v1 y1 t1)).setCell ⟨rb, 2, none⟩ (.slice v2 y2 t2)).setCell ⟨rb, 3, none⟩ (.slice v3 y3 t3)).cell? ⟨rb, 0, none⟩ = some (.slice v0 y0 t0) ∧ ((((wo.setCell ⟨rb, 0, none⟩ (.slice v0 y0 t0)).setCell ⟨rb, 1, none⟩ (.slice v1 y1 t1)).setCell ⟨rb, 2, none⟩ (.slice v2 y2 t2)).setCell ⟨rb, 3, none⟩ (.slice v3 y3 t3)).cell? ⟨rb, 1, none⟩ = some (.slice v1 y1 t1) ∧
    ((((wo.setCell ⟨rb, 0, none⟩ (.slice v0 y0 t0)).setCell ⟨rb, 1, none⟩ (.slice v1 y1 t1)).setCell ⟨rb, 2, none⟩ (.slice v2 y2 t2)).setCell ⟨rb, 3, none⟩ (.slice v3 y3 t3)).cell? ⟨rb, 2, none⟩ = some (.slice v2 y2 t2) ∧ ((((wo.setCell ⟨rb, 0, none⟩ (.slice v0 y0 t0)).setCell ⟨rb, 1, none⟩ (.slice v1 y1 t1)).setCell ⟨rb, 2, none⟩ (.slice v2 y2 t2)).setCell ⟨rb, 3, none⟩ (.slice v3 y3 t3)).cell? ⟨rb, 3, none⟩ = some (.slice v3 y3 t3) := by
  obtain ⟨rc, hrc, hsz, -⟩ := h.ok
  have hsz : rc.size = 4 := hsz
  have hset : Goes Θw B N wo N (wo.setCells rb 0 [.slice v0 y0 t0, .slice v1 y1 t1, .slice v2 y2 t2, .slice v3 y3 t3]) := by
    have := Goes.puts (wSep 7 (by decide)) 0 [.slice v0 y0 t0, .slice v1 y1 t1, .slice v2 y2 t2, .slice v3 y3 t3] (Θw.fds 7) 0 wo h rfl ⟨g0, g1, g2, g3, trivial⟩
    simpa using this
  have j0 := heap_setCell_at wo rb 0 (.slice v0 y0 t0) _ _ _ hrc
  have j1 := heap_setCell_at _ rb 1 (.slice v1 y1 t1) _ _ _ j0
  have j2 := heap_setCell_at _ rb 2 (.slice v2 y2 t2) _ _ _ j1
  have j3 := heap_setCell_at _ rb 3 (.slice v3 y3 t3) _ _ _ j2
  exact ⟨⟨_, _, _, _, _, _, _, _, _, _, _, _, rfl, g0.goes hset, g1.goes hset, g2.goes hset, g3.goes hset⟩, ⟨hset, kept_setCellsF rb (fun h => h rfl) _ _ _⟩,
    cell_at (i := 0) (v := .slice v0 y0 t0) j3 (by simp [hsz]), cell_at (i := 1) (v := .slice v1 y1 t1) j3 (by simp [hsz]), cell_at (i := 2) (v := .slice v2 y2 t2) j3 (by simp [hsz]), cell_at (i := 3) (v := .slice v3 y3 t3) j3 (by simp [hsz])⟩
theorem TB.notSame {B : Nat} {N : Nat → Nat} {w : World} {b c k k' m m' : Nat} (h : TB Θw B N w b k m) (h' : TB Θw B N w c k' m') (hne : wTy k ≠ wTy k') : b ≠ c := by
  rintro rfl
  obtain ⟨x, h1, -⟩ := h.ok
  obtain ⟨y, h2, -⟩ := h'.ok
  rw [h1] at h2
  have := Option.some.inj h2
  injection this with _ e _
  exact hne e
set_option maxRecDepth 100000 in
set_option maxHeartbeats 25600000 in
theorem copyWorld_any (σ : St) (n B : Nat) (N : Nat → Nat) (s0 : Option Addr) (l0 q0 : Nat) (s1 : Option Addr) (l1 q1 : Nat) (s2 : Option Addr) (l2 q2 : Nat) (s3 : Option Addr) (l3 q3 : Nat) (w0 : World) (hs : Str σ w0 n) (hσ : σ.b < B) (hB : B ≤ w0.heap.size)
    (h0 : Gd Θw B N w0 (.sl 1) (.slice s0 l0 q0)) (h1 : Gd Θw B N w0 (.sl 5) (.slice s1 l1 q1)) (h2 : Gd Θw B N w0 (.sl 6) (.slice s2 l2 q2)) (h3 : Gd Θw B N w0 (.sl 4) (.slice s3 l3 q3)) (hhi : ∀ x, N x ≤ 1000) :
    Calls Tryz.prog 58 #[.agg #[.slice s0 l0 q0, .slice s1 l1 q1, .slice s2 l2 q2, .slice s3 l3 q3]] w0 fun e w' => ∃ v m, e = .returned v ∧ WldG B N w' v ∧ GenW σ B N N n 10000000 w0 w' m := by
  have hk1 : All w0 (w0.alloc (.cells #[.slice s0 l0 q0, .slice s1 l1 q1, .slice s2 l2 q2, .slice s3 l3 q3] 31)) := Kept.alloc _ _ _
  have ha1 : TB Θw B N (w0.alloc (.cells #[.slice s0 l0 q0, .slice s1 l1 q1, .slice s2 l2 q2, .slice s3 l3 q3] 31)) w0.heap.size 7 1 := TB.lit1 (Θ := Θw) (kd := 7) hB (by decide) ⟨h0, h1, h2, h3, trivial⟩
  have hk2 : All (w0.alloc (.cells #[.slice s0 l0 q0, .slice s1 l1 q1, .slice s2 l2 q2, .slice s3 l3 q3] 31)) ((w0.alloc (.cells #[.slice s0 l0 q0, .slice s1 l1 q1, .slice s2 l2 q2, .slice s3 l3 q3] 31)).alloc (.cells #[.slice none 0 0, .slice none 0 0, .slice none 0 0, .slice none 0 0] 31)) := Kept.alloc _ _ _
  have ha2 : TB Θw B N ((w0.alloc (.cells #[.slice s0 l0 q0, .slice s1 l1 q1, .slice s2 l2 q2, .slice s3 l3 q3] 31)).alloc (.cells #[.slice none 0 0, .slice none 0 0, .slice none 0 0, .slice none 0 0] 31)) (w0.alloc (.cells #[.slice s0 l0 q0, .slice s1 l1 q1, .slice s2 l2 q2, .slice s3 l3 q3] 31)).heap.size 7 1 := TB.lit1 (Θ := Θw) (kd := 7) (Nat.le_trans hB hk1.size) (by decide) ⟨Or.inl ⟨_, rfl⟩, Or.inl ⟨_, rfl⟩, Or.inl ⟨_, rfl⟩, Or.inl ⟨_, rfl⟩, trivial⟩
  have hbs : (w0.alloc (.cells #[.slice s0 l0 q0, .slice s1 l1 q1, .slice s2 l2 q2, .slice s3 l3 q3] 31)).heap.size = w0.heap.size + 1 := by simp
  rw [hbs] at ha2
  obtain ⟨w1, hw1⟩ : ∃ z, z = (w0.alloc (.cells #[.slice s0 l0 q0, .slice s1 l1 q1, .slice s2 l2 q2, .slice s3 l3 q3] 31)).alloc (.cells #[.slice none 0 0, .slice none 0 0, .slice none 0 0, .slice none 0 0] 31) := ⟨_, rfl⟩
  have hgo1 := (Goes.all hk2).tb _ _ _ ha1
  have hk := hk1.trans hk2
  rw [← hw1] at ha2 hgo1 hk
  obtain ⟨wb, hwb⟩ : ∃ z, z = w0.heap.size := ⟨_, rfl⟩
  rw [← hwb] at ha2 hgo1
  have HW1 := Lib.hid hw1
  have HWN := Lib.hid hwb
  have HWB := Lib.hid hgo1
  have HRB := Lib.hid ha2
  have HK := Lib.hid hk
  have HST := Lib.hid (hs.keep hk)
  have HLT := Lib.hid (show B ≤ w1.heap.size from Nat.le_trans hB hk.size)
  clear ha1 ha2 hk1 hk2 hgo1 hk hw1 hwb hbs h0 h1 h2 h3 hs
  go_enter Tryz.func58, Tryz.ntmps58
  go_upto_region 1 with fail
  simp only [← HWN.out, ← HW1.out]
  refine wp_region_ty 19 (by kernel_rfl) (by kernel_rfl) (RT Θw σ B N N (fun _ => True) w1 n 999 999)
    (DL [QIs (.pointer (some ⟨wb, 0, none⟩)), PL Θw B N N 1, PG Θw B N (.sl 1), QIs (.pointer (some ⟨wb, 1, none⟩)), PL Θw B N N 5, PG Θw B N (.sl 5), QIs (.pointer (some ⟨wb, 2, none⟩)), PL Θw B N N 6, PG Θw B N (.sl 6), QIs (.pointer (some ⟨wb, 3, none⟩)), PL Θw B N N 4, PG Θw B N (.sl 4), QIs (.pointer (some ⟨wb, 0, none⟩)), PN, QIs (.pointer (some ⟨wb, 1, none⟩)), PN, QIs (.pointer (some ⟨wb, 2, none⟩)), PN, QIs (.pointer (some ⟨wb, 3, none⟩))]) (fun w w' => Goes Θw B N w N w')
    (DL.keep (by simp only [List.forall_mem_cons, List.not_mem_nil, false_implies, implies_true, and_true]; exact ⟨QIs.stays' _, PL.stays _, PG.stays _, QIs.stays' _, PL.stays _, PG.stays _, QIs.stays' _, PL.stays _, PG.stays _, QIs.stays' _, PL.stays _, PG.stays _, QIs.stays' _, PN.stays, QIs.stays' _, PN.stays, QIs.stays' _, PN.stays, QIs.stays' _⟩)) ?_ ?_ ?_
  · exact ⟨⟨n, HST.out.keep (Kept.drew _ _), Nat.le_refl _, by omega⟩, Kept.drew _ _, HLT.out, by rw [if_neg (by decide)]; exact Goes.all (Kept.drew _ _), fun h => (by cases h), trivial⟩
  · intro i o ho hi kq L a' wx hkq hrt hL hdf hts hoth hld hdeps
    have hkz : kq < 19 := hkq
    have hz : i = 0 ∨ i = 1 ∨ i = 2 ∨ i = 3 ∨ i = 4 ∨ i = 5 ∨ i = 6 ∨ i = 7 ∨ i = 8 ∨ i = 9 ∨ i = 10 ∨ i = 11 ∨ i = 12 ∨ i = 13 ∨ i = 14 ∨ i = 15 ∨ i = 16 ∨ i = 17 ∨ i = 18 := by have : i < 19 := hi; omega
    rcases hz with rfl | rfl | rfl | rfl | rfl | rfl | rfl | rfl | rfl | rfl | rfl | rfl | rfl | rfl | rfl | rfl | rfl | rfl | rfl
    · obtain rfl := Option.some.inj ho
      have e : a'.tmps.getD 1 undef = .pointer (some ⟨wb, 0, none⟩) := tmp_of ((hoth 1 (by decide)).trans rfl)
      clear hoth hdeps hdf hts ho hld
      refine wp_via (fun K' hK => ?_)
      have HK := Lib.hid hK
      clear hK
      go_simp
      exact HK.out _ _ ⟨_, rfl, hrt.same (by decide), Goes.refl _ _ _ _, fun _ => rfl⟩
    · obtain rfl := Option.some.inj ho
      have e : a'.tmps.getD 8 undef = .pointer (some ⟨wb, 0, none⟩) := hdeps 0 (by decide) 8 rfl
      obtain ⟨a0, n0, c0', c0, z0, g0⟩ := ((hrt.goes (fun _ => Nat.le_refl _)).tb _ _ _ HWB.out).ldL (i := 0) (j := 0) (o := 0) (by decide) rfl (by decide)
      clear hoth hdeps hdf hts ho hld
      refine wp_via (fun K' hK => ?_)
      have HK := Lib.hid hK
      clear hK
      go_simp
      exact HK.out _ _ ⟨_, rfl, hrt.same (by decide), Goes.refl _ _ _ _, fun _ => ⟨_, _, _, rfl, z0, g0⟩⟩
    · obtain rfl := Option.some.inj ho
      obtain ⟨e0a, e0n, e0c, e0, e0l, e0g⟩ : ∃ a n c, a'.tmps.getD 9 undef = .slice a n c ∧ n ≤ N 1 ∧ Gd Θw B N wx (.sl 1) (.slice a n c) := hdeps 1 (by decide) 9 rfl
      clear hoth hdeps hdf hts ho hld
      refine wp_via (fun K' hK => ?_)
      have HK := Lib.hid hK
      clear hK
      go_simp
      refine (cloneWPlc_any B N _ _ _ wx e0g (by have := hhi 1; omega) hrt.lt).mono ?_
      rintro e w2 ⟨a2, c2, rfl, hg2, hk2⟩
      exact HK.out _ _ ⟨_, rfl, hrt.all (by decide) hk2 hσ (trivial), Goes.all hk2, fun _ => hg2⟩
    · obtain rfl := Option.some.inj ho
      have e : a'.tmps.getD 1 undef = .pointer (some ⟨wb, 0, none⟩) := tmp_of ((hoth 1 (by decide)).trans rfl)
      clear hoth hdeps hdf hts ho hld
      refine wp_via (fun K' hK => ?_)
      have HK := Lib.hid hK
      clear hK
      go_simp
      exact HK.out _ _ ⟨_, rfl, hrt.same (by decide), Goes.refl _ _ _ _, fun _ => rfl⟩
    · obtain rfl := Option.some.inj ho
      have e : a'.tmps.getD 11 undef = .pointer (some ⟨wb, 1, none⟩) := hdeps 3 (by decide) 11 rfl
      obtain ⟨a0, n0, c0', c0, z0, g0⟩ := ((hrt.goes (fun _ => Nat.le_refl _)).tb _ _ _ HWB.out).ldL (i := 0) (j := 1) (o := 1) (by decide) rfl (by decide)
      clear hoth hdeps hdf hts ho hld
      refine wp_via (fun K' hK => ?_)
      have HK := Lib.hid hK
      clear hK
      go_simp
      exact HK.out _ _ ⟨_, rfl, hrt.same (by decide), Goes.refl _ _ _ _, fun _ => ⟨_, _, _, rfl, z0, g0⟩⟩
    · obtain rfl := Option.some.inj ho
      obtain ⟨e0a, e0n, e0c, e0, e0l, e0g⟩ : ∃ a n c, a'.tmps.getD 12 undef = .slice a n c ∧ n ≤ N 5 ∧ Gd Θw B N wx (.sl 5) (.slice a n c) := hdeps 4 (by decide) 12 rfl
      clear hoth hdeps hdf hts ho hld
      refine wp_via (fun K' hK => ?_)
      have HK := Lib.hid hK
      clear hK
      go_simp
      refine (cloneWPer_any B N _ _ _ wx e0g (by have := hhi 5; omega) hrt.lt).mono ?_
      rintro e w2 ⟨a2, c2, rfl, hg2, hk2⟩
      exact HK.out _ _ ⟨_, rfl, hrt.all (by decide) hk2 hσ (trivial), Goes.all hk2, fun _ => hg2⟩
    · obtain rfl := Option.some.inj ho
      have e : a'.tmps.getD 1 undef = .pointer (some ⟨wb, 0, none⟩) := tmp_of ((hoth 1 (by decide)).trans rfl)
      clear hoth hdeps hdf hts ho hld
      refine wp_via (fun K' hK => ?_)
      have HK := Lib.hid hK
      clear hK
      go_simp
      exact HK.out _ _ ⟨_, rfl, hrt.same (by decide), Goes.refl _ _ _ _, fun _ => rfl⟩
    · obtain rfl := Option.some.inj ho
      have e : a'.tmps.getD 14 undef = .pointer (some ⟨wb, 2, none⟩) := hdeps 6 (by decide) 14 rfl
      obtain ⟨a0, n0, c0', c0, z0, g0⟩ := ((hrt.goes (fun _ => Nat.le_refl _)).tb _ _ _ HWB.out).ldL (i := 0) (j := 2) (o := 2) (by decide) rfl (by decide)
      clear hoth hdeps hdf hts ho hld
      refine wp_via (fun K' hK => ?_)
      have HK := Lib.hid hK
      clear hK
      go_simp
      exact HK.out _ _ ⟨_, rfl, hrt.same (by decide), Goes.refl _ _ _ _, fun _ => ⟨_, _, _, rfl, z0, g0⟩⟩
    · obtain rfl := Option.some.inj ho
      obtain ⟨e0a, e0n, e0c, e0, e0l, e0g⟩ : ∃ a n c, a'.tmps.getD 15 undef = .slice a n c ∧ n ≤ N 6 ∧ Gd Θw B N wx (.sl 6) (.slice a n c) := hdeps 7 (by decide) 15 rfl
      clear hoth hdeps hdf hts ho hld
      refine wp_via (fun K' hK => ?_)
      have HK := Lib.hid hK
      clear hK
      go_simp
      refine (cloneWWrk_any B N _ _ _ wx e0g (by have := hhi 6; omega) hrt.lt).mono ?_
      rintro e w2 ⟨a2, c2, rfl, hg2, hk2⟩
      exact HK.out _ _ ⟨_, rfl, hrt.all (by decide) hk2 hσ (trivial), Goes.all hk2, fun _ => hg2⟩
    · obtain rfl := Option.some.inj ho
      have e : a'.tmps.getD 1 undef = .pointer (some ⟨wb, 0, none⟩) := tmp_of ((hoth 1 (by decide)).trans rfl)
      clear hoth hdeps hdf hts ho hld
      refine wp_via (fun K' hK => ?_)
      have HK := Lib.hid hK
      clear hK
      go_simp
      exact HK.out _ _ ⟨_, rfl, hrt.same (by decide), Goes.refl _ _ _ _, fun _ => rfl⟩
    · obtain rfl := Option.some.inj ho
      have e : a'.tmps.getD 17 undef = .pointer (some ⟨wb, 3, none⟩) := hdeps 9 (by decide) 17 rfl
      obtain ⟨a0, n0, c0', c0, z0, g0⟩ := ((hrt.goes (fun _ => Nat.le_refl _)).tb _ _ _ HWB.out).ldL (i := 0) (j := 3) (o := 3) (by decide) rfl (by decide)
      clear hoth hdeps hdf hts ho hld
      refine wp_via (fun K' hK => ?_)
      have HK := Lib.hid hK
      clear hK
      go_simp
      exact HK.out _ _ ⟨_, rfl, hrt.same (by decide), Goes.refl _ _ _ _, fun _ => ⟨_, _, _, rfl, z0, g0⟩⟩
    · obtain rfl := Option.some.inj ho
      obtain ⟨e0a, e0n, e0c, e0, e0l, e0g⟩ : ∃ a n c, a'.tmps.getD 18 undef = .slice a n c ∧ n ≤ N 4 ∧ Gd Θw B N wx (.sl 4) (.slice a n c) := hdeps 10 (by decide) 18 rfl
      clear hoth hdeps hdf hts ho hld
      refine wp_via (fun K' hK => ?_)
      have HK := Lib.hid hK
      clear hK
      go_simp
      refine (cloneWBnd_any B N _ _ _ wx e0g (by have := hhi 4; omega) hrt.lt).mono ?_
      rintro e w2 ⟨a2, c2, rfl, hg2, hk2⟩
      exact HK.out _ _ ⟨_, rfl, hrt.all (by decide) hk2 hσ (trivial), Goes.all hk2, fun _ => hg2⟩
    · obtain rfl := Option.some.inj ho
      have e : a'.tmps.getD 1 undef = .pointer (some ⟨wb, 0, none⟩) := tmp_of ((hoth 1 (by decide)).trans rfl)
      clear hoth hdeps hdf hts ho hld
      refine wp_via (fun K' hK => ?_)
      have HK := Lib.hid hK
      clear hK
      go_simp
      exact HK.out _ _ ⟨_, rfl, hrt.same (by decide), Goes.refl _ _ _ _, fun _ => rfl⟩
    · obtain rfl := Option.some.inj ho
      have e : a'.tmps.getD 20 undef = .pointer (some ⟨wb, 0, none⟩) := hdeps 12 (by decide) 20 rfl
      obtain ⟨xv, x, xg⟩ : ∃ v, a'.tmps.getD 10 undef = v ∧ Gd Θw B N wx (.sl 1) v := ⟨_, rfl, hdeps 2 (by decide) 10 rfl⟩
      obtain ⟨xa, xn, xc, rfl, -⟩ := xg.slice
      have hT := (hrt.goes (fun _ => Nat.le_refl _)).tb _ _ _ HWB.out
      obtain ⟨a0, n0, c0', c0, -, -⟩ := hT.ldL (i := 0) (j := 0) (o := 0) (by decide) rfl (by decide)
      have z0 := hT.fz (0)
      have hmod : (Θw.fds 7)[(0) % Θw.sz 7]? = some (.sl 1) := by rw [show (0) % Θw.sz 7 = 0 from by show (0) % 4 = 0; omega]; rfl
      clear hoth hdeps hdf hts ho hld
      refine wp_via (fun K' hK => ?_)
      have HK := Lib.hid hK
      clear hK
      go_simp
      exact HK.out _ _ ⟨undef, rfl, hrt.put (by decide) rfl (wSep 7 (by decide)) hT hmod xg (trivial) hσ, Goes.set (wSep 7 (by decide)) hT hmod xg, fun h => absurd rfl h⟩
    · obtain rfl := Option.some.inj ho
      have e : a'.tmps.getD 1 undef = .pointer (some ⟨wb, 0, none⟩) := tmp_of ((hoth 1 (by decide)).trans rfl)
      clear hoth hdeps hdf hts ho hld
      refine wp_via (fun K' hK => ?_)
      have HK := Lib.hid hK
      clear hK
      go_simp
      exact HK.out _ _ ⟨_, rfl, hrt.same (by decide), Goes.refl _ _ _ _, fun _ => rfl⟩
    · obtain rfl := Option.some.inj ho
      have e : a'.tmps.getD 21 undef = .pointer (some ⟨wb, 1, none⟩) := hdeps 14 (by decide) 21 rfl
      obtain ⟨xv, x, xg⟩ : ∃ v, a'.tmps.getD 13 undef = v ∧ Gd Θw B N wx (.sl 5) v := ⟨_, rfl, hdeps 5 (by decide) 13 rfl⟩
      obtain ⟨xa, xn, xc, rfl, -⟩ := xg.slice
      have hT := (hrt.goes (fun _ => Nat.le_refl _)).tb _ _ _ HWB.out
      obtain ⟨a0, n0, c0', c0, -, -⟩ := hT.ldL (i := 0) (j := 1) (o := 1) (by decide) rfl (by decide)
      have z0 := hT.fz (1)
      have hmod : (Θw.fds 7)[(1) % Θw.sz 7]? = some (.sl 5) := by rw [show (1) % Θw.sz 7 = 1 from by show (1) % 4 = 1; omega]; rfl
      clear hoth hdeps hdf hts ho hld
      refine wp_via (fun K' hK => ?_)
      have HK := Lib.hid hK
      clear hK
      go_simp
      exact HK.out _ _ ⟨undef, rfl, hrt.put (by decide) rfl (wSep 7 (by decide)) hT hmod xg (trivial) hσ, Goes.set (wSep 7 (by decide)) hT hmod xg, fun h => absurd rfl h⟩
    · obtain rfl := Option.some.inj ho
      have e : a'.tmps.getD 1 undef = .pointer (some ⟨wb, 0, none⟩) := tmp_of ((hoth 1 (by decide)).trans rfl)
      clear hoth hdeps hdf hts ho hld
      refine wp_via (fun K' hK => ?_)
      have HK := Lib.hid hK
      clear hK
      go_simp
      exact HK.out _ _ ⟨_, rfl, hrt.same (by decide), Goes.refl _ _ _ _, fun _ => rfl⟩
    · obtain rfl := Option.some.inj ho
      have e : a'.tmps.getD 22 undef = .pointer (some ⟨wb, 2, none⟩) := hdeps 16 (by decide) 22 rfl
      obtain ⟨xv, x, xg⟩ : ∃ v, a'.tmps.getD 16 undef = v ∧ Gd Θw B N wx (.sl 6) v := ⟨_, rfl, hdeps 8 (by decide) 16 rfl⟩
      obtain ⟨xa, xn, xc, rfl, -⟩ := xg.slice
      have hT := (hrt.goes (fun _ => Nat.le_refl _)).tb _ _ _ HWB.out
      obtain ⟨a0, n0, c0', c0, -, -⟩ := hT.ldL (i := 0) (j := 2) (o := 2) (by decide) rfl (by decide)
      have z0 := hT.fz (2)
      have hmod : (Θw.fds 7)[(2) % Θw.sz 7]? = some (.sl 6) := by rw [show (2) % Θw.sz 7 = 2 from by show (2) % 4 = 2; omega]; rfl
      clear hoth hdeps hdf hts ho hld
      refine wp_via (fun K' hK => ?_)
      have HK := Lib.hid hK
      clear hK
      go_simp
      exact HK.out _ _ ⟨undef, rfl, hrt.put (by decide) rfl (wSep 7 (by decide)) hT hmod xg (trivial) hσ, Goes.set (wSep 7 (by decide)) hT hmod xg, fun h => absurd rfl h⟩
    · obtain rfl := Option.some.inj ho
      have e : a'.tmps.getD 1 undef = .pointer (some ⟨wb, 0, none⟩) := tmp_of ((hoth 1 (by decide)).trans rfl)
      clear hoth hdeps hdf hts ho hld
      refine wp_via (fun K' hK => ?_)
      have HK := Lib.hid hK
      clear hK
      go_simp
      exact HK.out _ _ ⟨_, rfl, hrt.same (by decide), Goes.refl _ _ _ _, fun _ => rfl⟩
  · intro L wx f hrt hdl
    have p23 : f 23 = .pointer (some ⟨wb, 3, none⟩) := hdl 18 23 (by decide) rfl
    obtain ⟨p19v, p19', p19g'⟩ : ∃ v, f 19 = v ∧ Gd Θw B N wx (.sl 4) v := ⟨_, rfl, hdl 11 19 (by decide) rfl⟩
    obtain ⟨p19a, p19n, p19c, rfl, -⟩ := p19g'.slice
    have p19 := p19'
    have p19g := Lib.hid p19g'
    clear p19' p19g'
    rw [show dsts _ _ = [8, 9, 10, 11, 12, 13, 14, 15, 16, 17, 18, 19, 20, 21, 22, 23] from by kernel_rfl]
    simp only [List.map_cons, List.map_nil, puts, Act.put, p23, p19]
    generalize f 8 = f8
    generalize f 9 = f9
    generalize f 10 = f10
    generalize f 11 = f11
    generalize f 12 = f12
    generalize f 13 = f13
    generalize f 14 = f14
    generalize f 15 = f15
    generalize f 16 = f16
    generalize f 17 = f17
    generalize f 18 = f18
    generalize f 20 = f20
    generalize f 21 = f21
    generalize f 22 = f22
    simp only [List.setIfInBounds_toArray, List.set_cons_zero, List.set_cons_succ]
    clear hdl p23 p19 f
    obtain ⟨mz, hstz, hmz1, hmz2⟩ := hrt.st
    have hgoz := Lib.hid (hrt.goes (fun _ => Nat.le_refl _))
    have hkpz := Lib.hid hrt.kp
    have hltz := Lib.hid hrt.lt
    have hstz := Lib.hid hstz
    have hexz := Lib.hid hrt.ex
    clear hrt
    have HT := Lib.hid (hgoz.out.tb _ _ _ HWB.out)
    obtain ⟨a3, n3, c3, d3, -, -⟩ := HT.out.ldL (i := 0) (j := 3) (o := 3) (by decide) rfl (by decide)
    have z3 := HT.out.fz 3
    have hset : Goes Θw B N wx N (wx.setCell ⟨wb, 3, none⟩ (.slice p19a p19n p19c)) := Goes.set (wSep 7 (by decide)) HT.out (f := .sl 4) rfl p19g.out
    have hks : Kept (fun b => b < B) wx (wx.setCell ⟨wb, 3, none⟩ (.slice p19a p19n p19c)) := Kept.setCell _ _ _ (by have := HT.out.low; dsimp only; omega)
    obtain ⟨w2, hw2⟩ : ∃ z, z = wx.setCell ⟨wb, 3, none⟩ (.slice p19a p19n p19c) := ⟨_, rfl⟩
    have HW2 := Lib.hid hw2
    rw [← hw2] at hset hks
    have HG2 := Lib.hid (show GenX σ B N N n 1000 w0 w2 mz from ⟨hstz.out.kept hks (fun j hj => by omega), by omega, by omega, ((HK.out.mono (fun _ _ => trivial)).trans hkpz.out).trans2 hks (fun _ _ h => h.1), ((Goes.all HK.out).trans hgoz.out).trans hset, Nat.le_trans hltz.out hks.size⟩)
    have HGW := Lib.hid (show Goes Θw B N w1 N w2 from hgoz.out.trans hset)
    clear hset hks hw2
    have HWB2 := Lib.hid (HGW.out.tb _ _ _ HWB.out)
    have HRB2 := Lib.hid (HGW.out.tb _ _ _ HRB.out)
    obtain ⟨a0, n0, c0, a1, n1, c1, a2, n2, c2, a4, n4, c4, f0, f1, f2, f3, g0, g1, g2, g3⟩ := HWB2.out.wld (by decide)
    have HG1 := Lib.hid g1
    have hn1 : n1 ≤ 1000 := by
      obtain ⟨a', n', c', e, h, -⟩ := g1.slice
      cases e
      have := hhi 5
      omega
    clear g0 g1 g2 g3 f0 f2 f3
    go_upto_region 2 with fail
    clear d3 z3
    simp only [← HW2.out]
    have hst2 := Lib.hid HG2.out.st
    go_wp2_with fail
    go_loopw [27] (fun i wr => ∃ k m : Nat, k ≤ n1 ∧ i = .int .i64 k ∧ GenX σ B N N n (1000 + 1000 * k) w0 wr m ∧ Goes Θw B N w2 N wr ∧ wr.cell? ⟨wb, 1, none⟩ = some (.slice a1 n1 c1)) (fun i _ => n1 - (intOf i).toNat)
    case atStart => exact ⟨0, _, Nat.zero_le _, rfl, HG2.out.up (by omega), Goes.refl _ _ _ _, f1⟩
    case round =>
      clear f1
      obtain ⟨k, m2, hk, rfl, hgen, hgo, hcw⟩ := hrel
      obtain ⟨wo, rfl⟩ : ∃ z : World, z = wr := ⟨_, rfl⟩
      have HGE := Lib.hid hgen
      have HGO := Lib.hid hgo
      have HCW := Lib.hid hcw
      clear hgen hgo hcw
      by_cases hlt : k < n1
      · obtain ⟨a', n', c', e, hnN, hnc, hq⟩ := HG1.out.slice
        cases e
        obtain ⟨g, rfl, htb⟩ := hq (by omega)
        have HT1 := Lib.hid (HGO.out.tb _ _ _ htb)
        obtain ⟨s, x1, y1, z1, x2, y2, z2, x3, y3, z3, x4, y4, z4, e0, e1, e2, e3, e4, hs, g1, g2, g3, g4⟩ := HT1.out.per (i := k) (by omega)
        have hkc : k < c1 := by omega
        have f1 : (0 : Int) ≤ (k : Int) := by omega
        have f2 : (k : Int) < (n1 : Int) := by omega
        have hk4 : All wo (wo.alloc (.cells #[.string s, .slice x1 y1 z1, .slice x2 y2 z2, .slice x3 y3 z3, .slice x4 y4 z4] 97)) := Kept.alloc _ _ _
        have htp : TB Θw B N (wo.alloc (.cells #[.string s, .slice x1 y1 z1, .slice x2 y2 z2, .slice x3 y3 z3, .slice x4 y4 z4] 97)) wo.heap.size 5 1 := TB.lit1 (Θ := Θw) (kd := 5) HGE.out.lt (by decide) ⟨⟨_, rfl, hs⟩, g1, g2, g3, g4, trivial⟩
        obtain ⟨pb, hpb⟩ : ∃ z, z = wo.heap.size := ⟨_, rfl⟩
        obtain ⟨w5, hw5⟩ : ∃ z, z = wo.alloc (.cells #[.string s, .slice x1 y1 z1, .slice x2 y2 z2, .slice x3 y3 z3, .slice x4 y4 z4] 97) := ⟨_, rfl⟩
        have HPN := Lib.hid hpb
        have HW5 := Lib.hid hw5
        rw [← hpb, ← hw5] at htp
        rw [← hw5] at hk4
        have HK4 := Lib.hid hk4
        have HPB := Lib.hid htp
        have HGB := Lib.hid ((Goes.all hk4).tb _ _ _ HT1.out)
        have HWB4 := Lib.hid ((HGO.out.trans (Goes.all hk4)).tb _ _ _ HWB2.out)
        have HNE := Lib.hid (TB.notSame HWB4.out HGB.out (by decide))
        have HC5 := Lib.hid (hk4.cell HCW.out trivial)
        have HST := Lib.hid (HGE.out.st.keep hk4)
        have HLT := Lib.hid (Nat.le_trans HGE.out.lt hk4.size)
        have hm2 : m2 ≤ n + (1000 + 1000 * k) := HGE.out.hi
        have hcw := HCW.out
        clear hpb hw5 htp hk4 htb hq hs g1 g2 g3 g4 hnN hnc
        go_upto_region 5 with fail
        simp only [← HPN.out, ← HW5.out]
        clear hcw e0 e1 e2 e3 e4
        have c5 := HC5.out
        go_upto_region 6 with fail
        clear c5
        refine wp_region_ty 27 (by kernel_rfl) (by kernel_rfl) (RT Θw σ B N N (fun w => w.cell? ⟨wb, 1, none⟩ = some (.slice (some ⟨g, 0, none⟩) n1 c1)) w5 m2 999 999)
          (DL [QIs (.pointer (some ⟨g, k * 5, none⟩)), QIs (.pointer (some ⟨g, k * 5, none⟩)), QIs (.pointer (some ⟨g, k * 5, none⟩)), QIs (.pointer (some ⟨g, k * 5, none⟩)), QIs (.pointer (some ⟨pb, 1, none⟩)), PL Θw B N N 2, PG Θw B N (.sl 2), QIs (.pointer (some ⟨pb, 2, none⟩)), PL Θw B N N 3, PG Θw B N (.sl 3), QIs (.pointer (some ⟨pb, 3, none⟩)), PL Θw B N N 0, PG Θw B N (.sl 0), QIs (.pointer (some ⟨pb, 4, none⟩)), PL Θw B N N 0, PG Θw B N (.sl 0), QIs (.pointer (some ⟨g, k * 5, none⟩)), QIs (.pointer (some ⟨g, k * 5 + 1, none⟩)), PN, QIs (.pointer (some ⟨g, k * 5, none⟩)), QIs (.pointer (some ⟨g, k * 5 + 2, none⟩)), PN, QIs (.pointer (some ⟨g, k * 5, none⟩)), QIs (.pointer (some ⟨g, k * 5 + 3, none⟩)), PN, QIs (.pointer (some ⟨g, k * 5, none⟩)), QIs (.pointer (some ⟨g, k * 5 + 4, none⟩))]) (fun w w' => Goes Θw B N w N w')
          (DL.keep (by simp only [List.forall_mem_cons, List.not_mem_nil, false_implies, implies_true, and_true]; exact ⟨QIs.stays' _, QIs.stays' _, QIs.stays' _, QIs.stays' _, QIs.stays' _, PL.stays _, PG.stays _, QIs.stays' _, PL.stays _, PG.stays _, QIs.stays' _, PL.stays _, PG.stays _, QIs.stays' _, PL.stays _, PG.stays _, QIs.stays' _, QIs.stays' _, PN.stays, QIs.stays' _, QIs.stays' _, PN.stays, QIs.stays' _, QIs.stays' _, PN.stays, QIs.stays' _, QIs.stays' _⟩)) ?_ ?_ ?_
        · exact ⟨⟨m2, HST.out.keep (Kept.drew _ _), Nat.le_refl _, by omega⟩, Kept.drew _ _, HLT.out, by rw [if_neg (by decide)]; exact Goes.all (Kept.drew _ _), fun h => (by cases h), (Kept.drew (fun _ => True) _).cell HC5.out trivial⟩
        · intro i o ho hi kq L a' wx hkq hrt hL hdf hts hoth hld hdeps
          have hkz : kq < 27 := hkq
          have hz : i = 0 ∨ i = 1 ∨ i = 2 ∨ i = 3 ∨ i = 4 ∨ i = 5 ∨ i = 6 ∨ i = 7 ∨ i = 8 ∨ i = 9 ∨ i = 10 ∨ i = 11 ∨ i = 12 ∨ i = 13 ∨ i = 14 ∨ i = 15 ∨ i = 16 ∨ i = 17 ∨ i = 18 ∨ i = 19 ∨ i = 20 ∨ i = 21 ∨ i = 22 ∨ i = 23 ∨ i = 24 ∨ i = 25 ∨ i = 26 := by have : i < 27 := hi; omega
          rcases hz with rfl | rfl | rfl | rfl | rfl | rfl | rfl | rfl | rfl | rfl | rfl | rfl | rfl | rfl | rfl | rfl | rfl | rfl | rfl | rfl | rfl | rfl | rfl | rfl | rfl | rfl | rfl
          · obtain rfl := Option.some.inj ho
            have e : a'.tmps.getD 5 undef = .pointer (some ⟨g, k * 5, none⟩) := tmp_of ((hoth 5 (by decide)).trans rfl)
            clear hoth hdeps hdf hts ho hld
            refine wp_via (fun K' hK => ?_)
            have HK := Lib.hid hK
            clear hK
            go_simp
            exact HK.out _ _ ⟨_, rfl, hrt.same (by decide), Goes.refl _ _ _ _, fun _ => rfl⟩
          · obtain rfl := Option.some.inj ho
            have e : a'.tmps.getD 5 undef = .pointer (some ⟨g, k * 5, none⟩) := tmp_of ((hoth 5 (by decide)).trans rfl)
            clear hoth hdeps hdf hts ho hld
            refine wp_via (fun K' hK => ?_)
            have HK := Lib.hid hK
            clear hK
            go_simp
            exact HK.out _ _ ⟨_, rfl, hrt.same (by decide), Goes.refl _ _ _ _, fun _ => rfl⟩
          · obtain rfl := Option.some.inj ho
            have e : a'.tmps.getD 5 undef = .pointer (some ⟨g, k * 5, none⟩) := tmp_of ((hoth 5 (by decide)).trans rfl)
            clear hoth hdeps hdf hts ho hld
            refine wp_via (fun K' hK => ?_)
            have HK := Lib.hid hK
            clear hK
            go_simp
            exact HK.out _ _ ⟨_, rfl, hrt.same (by decide), Goes.refl _ _ _ _, fun _ => rfl⟩
          · obtain rfl := Option.some.inj ho
            have e : a'.tmps.getD 5 undef = .pointer (some ⟨g, k * 5, none⟩) := tmp_of ((hoth 5 (by decide)).trans rfl)
            clear hoth hdeps hdf hts ho hld
            refine wp_via (fun K' hK => ?_)
            have HK := Lib.hid hK
            clear hK
            go_simp
            exact HK.out _ _ ⟨_, rfl, hrt.same (by decide), Goes.refl _ _ _ _, fun _ => rfl⟩
          · obtain rfl := Option.some.inj ho
            have e : a'.tmps.getD 4 undef = .pointer (some ⟨pb, 0, none⟩) := tmp_of ((hoth 4 (by decide)).trans rfl)
            clear hoth hdeps hdf hts ho hld
            refine wp_via (fun K' hK => ?_)
            have HK := Lib.hid hK
            clear hK
            go_simp
            exact HK.out _ _ ⟨_, rfl, hrt.same (by decide), Goes.refl _ _ _ _, fun _ => rfl⟩
          · obtain rfl := Option.some.inj ho
            have e : a'.tmps.getD 40 undef = .pointer (some ⟨pb, 1, none⟩) := hdeps 4 (by decide) 40 rfl
            obtain ⟨a0, n0, c0', c0, z0, g0⟩ := ((hrt.goes (fun _ => Nat.le_refl _)).tb _ _ _ HPB.out).ldL (i := 0) (j := 1) (o := 1) (by decide) rfl (by decide)
            clear hoth hdeps hdf hts ho hld
            refine wp_via (fun K' hK => ?_)
            have HK := Lib.hid hK
            clear hK
            go_simp
            exact HK.out _ _ ⟨_, rfl, hrt.same (by decide), Goes.refl _ _ _ _, fun _ => ⟨_, _, _, rfl, z0, g0⟩⟩
          · obtain rfl := Option.some.inj ho
            obtain ⟨e0a, e0n, e0c, e0, e0l, e0g⟩ : ∃ a n c, a'.tmps.getD 41 undef = .slice a n c ∧ n ≤ N 2 ∧ Gd Θw B N wx (.sl 2) (.slice a n c) := hdeps 5 (by decide) 41 rfl
            clear hoth hdeps hdf hts ho hld
            refine wp_via (fun K' hK => ?_)
            have HK := Lib.hid hK
            clear hK
            go_simp
            refine (cloneWNam_any B N _ _ _ wx e0g (by have := hhi 2; omega) hrt.lt).mono ?_
            rintro e w2 ⟨a2, c2, rfl, hg2, hk2⟩
            exact HK.out _ _ ⟨_, rfl, hrt.all (by decide) hk2 hσ (hk2.cell hrt.ex trivial), Goes.all hk2, fun _ => hg2⟩
          · obtain rfl := Option.some.inj ho
            have e : a'.tmps.getD 4 undef = .pointer (some ⟨pb, 0, none⟩) := tmp_of ((hoth 4 (by decide)).trans rfl)
            clear hoth hdeps hdf hts ho hld
            refine wp_via (fun K' hK => ?_)
            have HK := Lib.hid hK
            clear hK
            go_simp
            exact HK.out _ _ ⟨_, rfl, hrt.same (by decide), Goes.refl _ _ _ _, fun _ => rfl⟩
          · obtain rfl := Option.some.inj ho
            have e : a'.tmps.getD 43 undef = .pointer (some ⟨pb, 2, none⟩) := hdeps 7 (by decide) 43 rfl
            obtain ⟨a0, n0, c0', c0, z0, g0⟩ := ((hrt.goes (fun _ => Nat.le_refl _)).tb _ _ _ HPB.out).ldL (i := 0) (j := 2) (o := 2) (by decide) rfl (by decide)
            clear hoth hdeps hdf hts ho hld
            refine wp_via (fun K' hK => ?_)
            have HK := Lib.hid hK
            clear hK
            go_simp
            exact HK.out _ _ ⟨_, rfl, hrt.same (by decide), Goes.refl _ _ _ _, fun _ => ⟨_, _, _, rfl, z0, g0⟩⟩
          · obtain rfl := Option.some.inj ho
            obtain ⟨e0a, e0n, e0c, e0, e0l, e0g⟩ : ∃ a n c, a'.tmps.getD 44 undef = .slice a n c ∧ n ≤ N 3 ∧ Gd Θw B N wx (.sl 3) (.slice a n c) := hdeps 8 (by decide) 44 rfl
            clear hoth hdeps hdf hts ho hld
            refine wp_via (fun K' hK => ?_)
            have HK := Lib.hid hK
            clear hK
            go_simp
            refine (cloneWHom_any B N _ _ _ wx e0g (by have := hhi 3; omega) hrt.lt).mono ?_
            rintro e w2 ⟨a2, c2, rfl, hg2, hk2⟩
            exact HK.out _ _ ⟨_, rfl, hrt.all (by decide) hk2 hσ (hk2.cell hrt.ex trivial), Goes.all hk2, fun _ => hg2⟩
          · obtain rfl := Option.some.inj ho
            have e : a'.tmps.getD 4 undef = .pointer (some ⟨pb, 0, none⟩) := tmp_of ((hoth 4 (by decide)).trans rfl)
            clear hoth hdeps hdf hts ho hld
            refine wp_via (fun K' hK => ?_)
            have HK := Lib.hid hK
            clear hK
            go_simp
            exact HK.out _ _ ⟨_, rfl, hrt.same (by decide), Goes.refl _ _ _ _, fun _ => rfl⟩
          · obtain rfl := Option.some.inj ho
            have e : a'.tmps.getD 46 undef = .pointer (some ⟨pb, 3, none⟩) := hdeps 10 (by decide) 46 rfl
            obtain ⟨a0, n0, c0', c0, z0, g0⟩ := ((hrt.goes (fun _ => Nat.le_refl _)).tb _ _ _ HPB.out).ldL (i := 0) (j := 3) (o := 3) (by decide) rfl (by decide)
            clear hoth hdeps hdf hts ho hld
            refine wp_via (fun K' hK => ?_)
            have HK := Lib.hid hK
            clear hK
            go_simp
            exact HK.out _ _ ⟨_, rfl, hrt.same (by decide), Goes.refl _ _ _ _, fun _ => ⟨_, _, _, rfl, z0, g0⟩⟩
          · obtain rfl := Option.some.inj ho
            obtain ⟨e0a, e0n, e0c, e0, e0l, e0g⟩ : ∃ a n c, a'.tmps.getD 47 undef = .slice a n c ∧ n ≤ N 0 ∧ Gd Θw B N wx (.sl 0) (.slice a n c) := hdeps 11 (by decide) 47 rfl
            clear hoth hdeps hdf hts ho hld
            refine wp_via (fun K' hK => ?_)
            have HK := Lib.hid hK
            clear hK
            go_simp
            refine (cloneWStr_any B N _ _ _ wx e0g (by have := hhi 0; omega) hrt.lt).mono ?_
            rintro e w2 ⟨a2, c2, rfl, hg2, hk2⟩
            exact HK.out _ _ ⟨_, rfl, hrt.all (by decide) hk2 hσ (hk2.cell hrt.ex trivial), Goes.all hk2, fun _ => hg2⟩
          · obtain rfl := Option.some.inj ho
            have e : a'.tmps.getD 4 undef = .pointer (some ⟨pb, 0, none⟩) := tmp_of ((hoth 4 (by decide)).trans rfl)
            clear hoth hdeps hdf hts ho hld
            refine wp_via (fun K' hK => ?_)
            have HK := Lib.hid hK
            clear hK
            go_simp
            exact HK.out _ _ ⟨_, rfl, hrt.same (by decide), Goes.refl _ _ _ _, fun _ => rfl⟩
          · obtain rfl := Option.some.inj ho
            have e : a'.tmps.getD 49 undef = .pointer (some ⟨pb, 4, none⟩) := hdeps 13 (by decide) 49 rfl
            obtain ⟨a0, n0, c0', c0, z0, g0⟩ := ((hrt.goes (fun _ => Nat.le_refl _)).tb _ _ _ HPB.out).ldL (i := 0) (j := 4) (o := 4) (by decide) rfl (by decide)
            clear hoth hdeps hdf hts ho hld
            refine wp_via (fun K' hK => ?_)
            have HK := Lib.hid hK
            clear hK
            go_simp
            exact HK.out _ _ ⟨_, rfl, hrt.same (by decide), Goes.refl _ _ _ _, fun _ => ⟨_, _, _, rfl, z0, g0⟩⟩
          · obtain rfl := Option.some.inj ho
            obtain ⟨e0a, e0n, e0c, e0, e0l, e0g⟩ : ∃ a n c, a'.tmps.getD 50 undef = .slice a n c ∧ n ≤ N 0 ∧ Gd Θw B N wx (.sl 0) (.slice a n c) := hdeps 14 (by decide) 50 rfl
            clear hoth hdeps hdf hts ho hld
            refine wp_via (fun K' hK => ?_)
            have HK := Lib.hid hK
            clear hK
            go_simp
            refine (cloneWStr_any B N _ _ _ wx e0g (by have := hhi 0; omega) hrt.lt).mono ?_
            rintro e w2 ⟨a2, c2, rfl, hg2, hk2⟩
            exact HK.out _ _ ⟨_, rfl, hrt.all (by decide) hk2 hσ (hk2.cell hrt.ex trivial), Goes.all hk2, fun _ => hg2⟩
          · obtain rfl := Option.some.inj ho
            have e : a'.tmps.getD 36 undef = .pointer (some ⟨g, k * 5, none⟩) := hdeps 0 (by decide) 36 rfl
            clear hoth hdeps hdf hts ho hld
            refine wp_via (fun K' hK => ?_)
            have HK := Lib.hid hK
            clear hK
            go_simp
            exact HK.out _ _ ⟨_, rfl, hrt.same (by decide), Goes.refl _ _ _ _, fun _ => rfl⟩
          · obtain rfl := Option.some.inj ho
            have e : a'.tmps.getD 52 undef = .pointer (some ⟨g, k * 5, none⟩) := hdeps 16 (by decide) 52 rfl
            clear hoth hdeps hdf hts ho hld
            refine wp_via (fun K' hK => ?_)
            have HK := Lib.hid hK
            clear hK
            go_simp
            exact HK.out _ _ ⟨_, rfl, hrt.same (by decide), Goes.refl _ _ _ _, fun _ => rfl⟩
          · obtain rfl := Option.some.inj ho
            have e : a'.tmps.getD 53 undef = .pointer (some ⟨g, k * 5 + 1, none⟩) := hdeps 17 (by decide) 53 rfl
            obtain ⟨xv, x, xg⟩ : ∃ v, a'.tmps.getD 42 undef = v ∧ Gd Θw B N wx (.sl 2) v := ⟨_, rfl, hdeps 6 (by decide) 42 rfl⟩
            obtain ⟨xa, xn, xc, rfl, -⟩ := xg.slice
            have hT := (hrt.goes (fun _ => Nat.le_refl _)).tb _ _ _ HGB.out
            obtain ⟨a0, n0, c0', c0, -, -⟩ := hT.ldL (i := k) (j := 1) (o := k * 5 + 1) hkc rfl (rfl)
            have z0 := hT.fz (k * 5 + 1)
            have hmod : (Θw.fds 5)[(k * 5 + 1) % Θw.sz 5]? = some (.sl 2) := by rw [show (k * 5 + 1) % Θw.sz 5 = 1 from by show (k * 5 + 1) % 5 = 1; omega]; rfl
            clear hoth hdeps hdf hts ho hld
            refine wp_via (fun K' hK => ?_)
            have HK := Lib.hid hK
            clear hK
            go_simp
            exact HK.out _ _ ⟨undef, rfl, hrt.put (by decide) rfl (wSep 5 (by decide)) hT hmod xg ((Kept.setCell (F := fun x => x ≠ g) _ _ _ (fun h => h rfl)).cell hrt.ex HNE.out) hσ, Goes.set (wSep 5 (by decide)) hT hmod xg, fun h => absurd rfl h⟩
          · obtain rfl := Option.some.inj ho
            have e : a'.tmps.getD 37 undef = .pointer (some ⟨g, k * 5, none⟩) := hdeps 1 (by decide) 37 rfl
            clear hoth hdeps hdf hts ho hld
            refine wp_via (fun K' hK => ?_)
            have HK := Lib.hid hK
            clear hK
            go_simp
            exact HK.out _ _ ⟨_, rfl, hrt.same (by decide), Goes.refl _ _ _ _, fun _ => rfl⟩
          · obtain rfl := Option.some.inj ho
            have e : a'.tmps.getD 54 undef = .pointer (some ⟨g, k * 5, none⟩) := hdeps 19 (by decide) 54 rfl
            clear hoth hdeps hdf hts ho hld
            refine wp_via (fun K' hK => ?_)
            have HK := Lib.hid hK
            clear hK
            go_simp
            exact HK.out _ _ ⟨_, rfl, hrt.same (by decide), Goes.refl _ _ _ _, fun _ => rfl⟩
          · obtain rfl := Option.some.inj ho
            have e : a'.tmps.getD 55 undef = .pointer (some ⟨g, k * 5 + 2, none⟩) := hdeps 20 (by decide) 55 rfl
            obtain ⟨xv, x, xg⟩ : ∃ v, a'.tmps.getD 45 undef = v ∧ Gd Θw B N wx (.sl 3) v := ⟨_, rfl, hdeps 9 (by decide) 45 rfl⟩
            obtain ⟨xa, xn, xc, rfl, -⟩ := xg.slice
            have hT := (hrt.goes (fun _ => Nat.le_refl _)).tb _ _ _ HGB.out
            obtain ⟨a0, n0, c0', c0, -, -⟩ := hT.ldL (i := k) (j := 2) (o := k * 5 + 2) hkc rfl (rfl)
            have z0 := hT.fz (k * 5 + 2)
            have hmod : (Θw.fds 5)[(k * 5 + 2) % Θw.sz 5]? = some (.sl 3) := by rw [show (k * 5 + 2) % Θw.sz 5 = 2 from by show (k * 5 + 2) % 5 = 2; omega]; rfl
            clear hoth hdeps hdf hts ho hld
            refine wp_via (fun K' hK => ?_)
            have HK := Lib.hid hK
            clear hK
            go_simp
            exact HK.out _ _ ⟨undef, rfl, hrt.put (by decide) rfl (wSep 5 (by decide)) hT hmod xg ((Kept.setCell (F := fun x => x ≠ g) _ _ _ (fun h => h rfl)).cell hrt.ex HNE.out) hσ, Goes.set (wSep 5 (by decide)) hT hmod xg, fun h => absurd rfl h⟩
          · obtain rfl := Option.some.inj ho
            have e : a'.tmps.getD 38 undef = .pointer (some ⟨g, k * 5, none⟩) := hdeps 2 (by decide) 38 rfl
            clear hoth hdeps hdf hts ho hld
            refine wp_via (fun K' hK => ?_)
            have HK := Lib.hid hK
            clear hK
            go_simp
            exact HK.out _ _ ⟨_, rfl, hrt.same (by decide), Goes.refl _ _ _ _, fun _ => rfl⟩
          · obtain rfl := Option.some.inj ho
            have e : a'.tmps.getD 56 undef = .pointer (some ⟨g, k * 5, none⟩) := hdeps 22 (by decide) 56 rfl
            clear hoth hdeps hdf hts ho hld
            refine wp_via (fun K' hK => ?_)
            have HK := Lib.hid hK
            clear hK
            go_simp
            exact HK.out _ _ ⟨_, rfl, hrt.same (by decide), Goes.refl _ _ _ _, fun _ => rfl⟩
          · obtain rfl := Option.some.inj ho
            have e : a'.tmps.getD 57 undef = .pointer (some ⟨g, k * 5 + 3, none⟩) := hdeps 23 (by decide) 57 rfl
            obtain ⟨xv, x, xg⟩ : ∃ v, a'.tmps.getD 48 undef = v ∧ Gd Θw B N wx (.sl 0) v := ⟨_, rfl, hdeps 12 (by decide) 48 rfl⟩
            obtain ⟨xa, xn, xc, rfl, -⟩ := xg.slice
            have hT := (hrt.goes (fun _ => Nat.le_refl _)).tb _ _ _ HGB.out
            obtain ⟨a0, n0, c0', c0, -, -⟩ := hT.ldL (i := k) (j := 3) (o := k * 5 + 3) hkc rfl (rfl)
            have z0 := hT.fz (k * 5 + 3)
            have hmod : (Θw.fds 5)[(k * 5 + 3) % Θw.sz 5]? = some (.sl 0) := by rw [show (k * 5 + 3) % Θw.sz 5 = 3 from by show (k * 5 + 3) % 5 = 3; omega]; rfl
            clear hoth hdeps hdf hts ho hld
            refine wp_via (fun K' hK => ?_)
            have HK := Lib.hid hK
            clear hK
            go_simp
            exact HK.out _ _ ⟨undef, rfl, hrt.put (by decide) rfl (wSep 5 (by decide)) hT hmod xg ((Kept.setCell (F := fun x => x ≠ g) _ _ _ (fun h => h rfl)).cell hrt.ex HNE.out) hσ, Goes.set (wSep 5 (by decide)) hT hmod xg, fun h => absurd rfl h⟩
          · obtain rfl := Option.some.inj ho
            have e : a'.tmps.getD 39 undef = .pointer (some ⟨g, k * 5, none⟩) := hdeps 3 (by decide) 39 rfl
            clear hoth hdeps hdf hts ho hld
            refine wp_via (fun K' hK => ?_)
            have HK := Lib.hid hK
            clear hK
            go_simp
            exact HK.out _ _ ⟨_, rfl, hrt.same (by decide), Goes.refl _ _ _ _, fun _ => rfl⟩
          · obtain rfl := Option.some.inj ho
            have e : a'.tmps.getD 58 undef = .pointer (some ⟨g, k * 5, none⟩) := hdeps 25 (by decide) 58 rfl
            clear hoth hdeps hdf hts ho hld
            refine wp_via (fun K' hK => ?_)
            have HK := Lib.hid hK
            clear hK
            go_simp
            exact HK.out _ _ ⟨_, rfl, hrt.same (by decide), Goes.refl _ _ _ _, fun _ => rfl⟩
        · intro L wx f hrt hdl
          have p59 : f 59 = .pointer (some ⟨g, k * 5 + 4, none⟩) := hdl 26 59 (by decide) rfl
          obtain ⟨p51v, p51', p51g'⟩ : ∃ v, f 51 = v ∧ Gd Θw B N wx (.sl 0) v := ⟨_, rfl, hdl 15 51 (by decide) rfl⟩
          obtain ⟨p51a, p51n, p51c, rfl, -⟩ := p51g'.slice
          have p51 := p51'
          have p51g := Lib.hid p51g'
          clear p51' p51g'
          rw [show dsts _ _ = [36, 37, 38, 39, 40, 41, 42, 43, 44, 45, 46, 47, 48, 49, 50, 51, 52, 53, 54, 55, 56, 57, 58, 59] from by kernel_rfl]
          simp only [List.map_cons, List.map_nil, puts, Act.put, p59, p51]
          generalize f 36 = f36
          generalize f 37 = f37
          generalize f 38 = f38
          generalize f 39 = f39
          generalize f 40 = f40
          generalize f 41 = f41
          generalize f 42 = f42
          generalize f 43 = f43
          generalize f 44 = f44
          generalize f 45 = f45
          generalize f 46 = f46
          generalize f 47 = f47
          generalize f 48 = f48
          generalize f 49 = f49
          generalize f 50 = f50
          generalize f 52 = f52
          generalize f 53 = f53
          generalize f 54 = f54
          generalize f 55 = f55
          generalize f 56 = f56
          generalize f 57 = f57
          generalize f 58 = f58
          simp only [List.setIfInBounds_toArray, List.set_cons_zero, List.set_cons_succ]
          clear hdl p59 p51 f
          obtain ⟨mz, hstz, hmz1, hmz2⟩ := hrt.st
          have hgoz := Lib.hid (hrt.goes (fun _ => Nat.le_refl _))
          have hkpz := Lib.hid hrt.kp
          have hltz := Lib.hid hrt.lt
          have hstz := Lib.hid hstz
          have hexz := Lib.hid hrt.ex
          clear hrt
          have HT := Lib.hid (hgoz.out.tb _ _ _ HGB.out)
          obtain ⟨a3, n3, c3, d3, -, -⟩ := HT.out.ldL (i := k) (j := 4) (o := k * 5 + 4) hkc rfl rfl
          have z3 := HT.out.fz (k * 5 + 4)
          have hset : Goes Θw B N wx N (wx.setCell ⟨g, k * 5 + 4, none⟩ (.slice p51a p51n p51c)) := Goes.set (wSep 5 (by decide)) HT.out (f := .sl 0) (by rw [show (k * 5 + 4) % Θw.sz 5 = 4 from by show (k * 5 + 4) % 5 = 4; omega]; rfl) p51g.out
          have hks : Kept (fun b => b ≠ g) wx (wx.setCell ⟨g, k * 5 + 4, none⟩ (.slice p51a p51n p51c)) := Kept.setCell _ _ _ (fun h => h rfl)
          have HCF := Lib.hid (hks.cell hexz.out HNE.out)
          have hlow := HT.out.low
          have HF := Lib.hid (show GenX σ B N N n (1000 + 1000 * (k + 1)) w0 (wx.setCell ⟨g, k * 5 + 4, none⟩ (.slice p51a p51n p51c)) mz from ⟨hstz.out.kept hks (fun j hj => by omega), by have := HGE.out.lo; omega, by omega, ((HGE.out.kp.trans2 HK4.out (fun _ _ _ => trivial)).trans hkpz.out).trans2 hks (fun x _ hx => by have := hx.1; omega), ((HGE.out.goes.trans (Goes.all HK4.out)).trans hgoz.out).trans hset, Nat.le_trans hltz.out hks.size⟩)
          have HGF := Lib.hid (((HGO.out.trans (Goes.all HK4.out)).trans hgoz.out).trans hset)
          clear hset hks hlow
          go_wp2_with fail
          go_roundw
          case rel => exact ⟨k + 1, mz, by omega, by go_num, HF.out, HGF.out, HCF.out⟩
          case measure => simp [intOf]; omega
      · have hd : decide ((k : Int) < (n1 : Int)) = false := by simp; omega
        have HGB9 := HGE
        have HWB9 := Lib.hid (HGO.out.tb _ _ _ HWB2.out)
        have HRB9 := Lib.hid (HGO.out.tb _ _ _ HRB2.out)
        obtain ⟨a0, n0, c0, a9, n9, c9, a2, n2, c2, a4, n4, c4, f0, f1, f2, f3, g0, g1, g2, g3⟩ := HWB9.out.wld (by decide)
        have HG1 := Lib.hid g2
        have hn2 : n2 ≤ 1000 := by
          obtain ⟨a', n', c', e, h, -⟩ := g2.slice
          cases e
          have := hhi 6
          omega
        clear g0 g1 g2 g3 f0 f1 f3
        go_wp2_with fail
        go_loopw [64] (fun i wr => ∃ k m : Nat, k ≤ n2 ∧ i = .int .i64 k ∧ GenX σ B N N n (2000000 + 1000 * k) w0 wr m ∧ Goes Θw B N wo N wr ∧ wr.cell? ⟨wb, 2, none⟩ = some (.slice a2 n2 c2)) (fun i _ => n2 - (intOf i).toNat)
        case atStart => exact ⟨0, _, Nat.zero_le _, rfl, HGB9.out.up (by omega), Goes.refl _ _ _ _, f2⟩
        case round =>
          clear f2
          obtain ⟨k, m2, hk, rfl, hgen, hgo, hcw⟩ := hrel
          obtain ⟨wo, rfl⟩ : ∃ z : World, z = wr := ⟨_, rfl⟩
          have HGE := Lib.hid hgen
          have HGO := Lib.hid hgo
          have HCW := Lib.hid hcw
          clear hgen hgo hcw
          by_cases hlt : k < n2
          · obtain ⟨a', n', c', e, hnN, hnc, hq⟩ := HG1.out.slice
            cases e
            obtain ⟨g, rfl, htb⟩ := hq (by omega)
            have HT1 := Lib.hid (HGO.out.tb _ _ _ htb)
            obtain ⟨d, x1, y1, z1, e0, e1, hd, g1⟩ := HT1.out.wrk (i := k) (by omega)
            have hkc : k < c2 := by omega
            have f1 : (0 : Int) ≤ (k : Int) := by omega
            have f2 : (k : Int) < (n2 : Int) := by omega
            have hk4 : All wo (wo.alloc (.cells #[.int .i64 d, .slice x1 y1 z1] 105)) := Kept.alloc _ _ _
            have htp : TB Θw B N (wo.alloc (.cells #[.int .i64 d, .slice x1 y1 z1] 105)) wo.heap.size 6 1 := TB.lit1 (Θ := Θw) (kd := 6) HGE.out.lt (by decide) ⟨⟨_, rfl, hd⟩, g1, trivial⟩
            obtain ⟨pb, hpb⟩ : ∃ z, z = wo.heap.size := ⟨_, rfl⟩
            obtain ⟨w5, hw5⟩ : ∃ z, z = wo.alloc (.cells #[.int .i64 d, .slice x1 y1 z1] 105) := ⟨_, rfl⟩
            have HPN := Lib.hid hpb
            have HW5 := Lib.hid hw5
            rw [← hpb, ← hw5] at htp
            rw [← hw5] at hk4
            have HK4 := Lib.hid hk4
            have HPB := Lib.hid htp
            have HGB := Lib.hid ((Goes.all hk4).tb _ _ _ HT1.out)
            have HWB4 := Lib.hid ((HGO.out.trans (Goes.all hk4)).tb _ _ _ HWB9.out)
            have HNE := Lib.hid (TB.notSame HWB4.out HGB.out (by decide))
            have HC5 := Lib.hid (hk4.cell HCW.out trivial)
            have HST := Lib.hid (HGE.out.st.keep hk4)
            have HLT := Lib.hid (Nat.le_trans HGE.out.lt hk4.size)
            have hm2 : m2 ≤ n + (2000000 + 1000 * k) := HGE.out.hi
            have hcw := HCW.out
            clear hpb hw5 htp hk4 htb hq hd g1 hnN hnc
            go_upto_region 11 with fail
            simp only [← HPN.out, ← HW5.out]
            clear hcw e0 e1
            have c5 := HC5.out
            go_upto_region 11 with fail
            clear c5
            refine wp_region_ty 8 (by kernel_rfl) (by kernel_rfl) (RT Θw σ B N N (fun w => w.cell? ⟨wb, 2, none⟩ = some (.slice (some ⟨g, 0, none⟩) n2 c2)) w5 m2 999 999)
              (DL [QIs (.pointer (some ⟨wb, 2, none⟩)), QIs (.slice (some ⟨g, 0, none⟩) n2 c2), QIs (.int .i64 (k : Int)), QIs (.pointer (some ⟨pb, 1, none⟩)), PL Θw B N N 0, PG Θw B N (.sl 0), QIs (.pointer (some ⟨g, k * 2, none⟩)), QIs (.pointer (some ⟨g, k * 2 + 1, none⟩))]) (fun w w' => Goes Θw B N w N w')
              (DL.keep (by simp only [List.forall_mem_cons, List.not_mem_nil, false_implies, implies_true, and_true]; exact ⟨QIs.stays' _, QIs.stays' _, QIs.stays' _, QIs.stays' _, PL.stays _, PG.stays _, QIs.stays' _, QIs.stays' _⟩)) ?_ ?_ ?_
            · exact ⟨⟨m2, HST.out.keep (Kept.drew _ _), Nat.le_refl _, by omega⟩, Kept.drew _ _, HLT.out, by rw [if_neg (by decide)]; exact Goes.all (Kept.drew _ _), fun h => (by cases h), (Kept.drew (fun _ => True) _).cell HC5.out trivial⟩
            · intro i o ho hi kq L a' wx hkq hrt hL hdf hts hoth hld hdeps
              have hkz : kq < 8 := hkq
              have hz : i = 0 ∨ i = 1 ∨ i = 2 ∨ i = 3 ∨ i = 4 ∨ i = 5 ∨ i = 6 ∨ i = 7 := by have : i < 8 := hi; omega
              rcases hz with rfl | rfl | rfl | rfl | rfl | rfl | rfl | rfl
              · obtain rfl := Option.some.inj ho
                have e : a'.tmps.getD 1 undef = .pointer (some ⟨wb, 0, none⟩) := tmp_of ((hoth 1 (by decide)).trans rfl)
                clear hoth hdeps hdf hts ho hld
                refine wp_via (fun K' hK => ?_)
                have HK := Lib.hid hK
                clear hK
                go_simp
                exact HK.out _ _ ⟨_, rfl, hrt.same (by decide), Goes.refl _ _ _ _, fun _ => rfl⟩
              · obtain rfl := Option.some.inj ho
                have e : a'.tmps.getD 69 undef = .pointer (some ⟨wb, 2, none⟩) := hdeps 0 (by decide) 69 rfl
                have c0 := hrt.ex
                clear hoth hdeps hdf hts ho hld
                refine wp_via (fun K' hK => ?_)
                have HK := Lib.hid hK
                clear hK
                go_simp
                exact HK.out _ _ ⟨_, rfl, hrt.same (by decide), Goes.refl _ _ _ _, fun _ => rfl⟩
              · obtain rfl := Option.some.inj ho
                have e : a'.tmps.getD 6 undef = .int .i64 (k : Int) := tmp_of ((hoth 6 (by decide)).trans rfl)
                clear hoth hdeps hdf hts ho hld
                refine wp_via (fun K' hK => ?_)
                have HK := Lib.hid hK
                clear hK
                go_simp
                exact HK.out _ _ ⟨_, rfl, hrt.same (by decide), Goes.refl _ _ _ _, fun _ => rfl⟩
              · obtain rfl := Option.some.inj ho
                have e : a'.tmps.getD 7 undef = .pointer (some ⟨pb, 0, none⟩) := tmp_of ((hoth 7 (by decide)).trans rfl)
                clear hoth hdeps hdf hts ho hld
                refine wp_via (fun K' hK => ?_)
                have HK := Lib.hid hK
                clear hK
                go_simp
                exact HK.out _ _ ⟨_, rfl, hrt.same (by decide), Goes.refl _ _ _ _, fun _ => rfl⟩
              · obtain rfl := Option.some.inj ho
                have e : a'.tmps.getD 72 undef = .pointer (some ⟨pb, 1, none⟩) := hdeps 3 (by decide) 72 rfl
                obtain ⟨a0, n0, c0', c0, z0, g0⟩ := ((hrt.goes (fun _ => Nat.le_refl _)).tb _ _ _ HPB.out).ldL (i := 0) (j := 1) (o := 1) (by decide) rfl (by decide)
                clear hoth hdeps hdf hts ho hld
                refine wp_via (fun K' hK => ?_)
                have HK := Lib.hid hK
                clear hK
                go_simp
                exact HK.out _ _ ⟨_, rfl, hrt.same (by decide), Goes.refl _ _ _ _, fun _ => ⟨_, _, _, rfl, z0, g0⟩⟩
              · obtain rfl := Option.some.inj ho
                obtain ⟨e0a, e0n, e0c, e0, e0l, e0g⟩ : ∃ a n c, a'.tmps.getD 73 undef = .slice a n c ∧ n ≤ N 0 ∧ Gd Θw B N wx (.sl 0) (.slice a n c) := hdeps 4 (by decide) 73 rfl
                clear hoth hdeps hdf hts ho hld
                refine wp_via (fun K' hK => ?_)
                have HK := Lib.hid hK
                clear hK
                go_simp
                refine (cloneWStr_any B N _ _ _ wx e0g (by have := hhi 0; omega) hrt.lt).mono ?_
                rintro e w2 ⟨a2, c2, rfl, hg2, hk2⟩
                exact HK.out _ _ ⟨_, rfl, hrt.all (by decide) hk2 hσ (hk2.cell hrt.ex trivial), Goes.all hk2, fun _ => hg2⟩
              · obtain rfl := Option.some.inj ho
                have e : a'.tmps.getD 70 undef = .slice (some ⟨g, 0, none⟩) n2 c2 := hdeps 1 (by decide) 70 rfl
                have x : a'.tmps.getD 71 undef = .int .i64 (k : Int) := hdeps 2 (by decide) 71 rfl
                clear hoth hdeps hdf hts ho hld
                refine wp_via (fun K' hK => ?_)
                have HK := Lib.hid hK
                clear hK
                go_simp
                exact HK.out _ _ ⟨_, rfl, hrt.same (by decide), Goes.refl _ _ _ _, fun _ => rfl⟩
              · obtain rfl := Option.some.inj ho
                have e : a'.tmps.getD 75 undef = .pointer (some ⟨g, k * 2, none⟩) := hdeps 6 (by decide) 75 rfl
                clear hoth hdeps hdf hts ho hld
                refine wp_via (fun K' hK => ?_)
                have HK := Lib.hid hK
                clear hK
                go_simp
                exact HK.out _ _ ⟨_, rfl, hrt.same (by decide), Goes.refl _ _ _ _, fun _ => rfl⟩
            · intro L wx f hrt hdl
              have p76 : f 76 = .pointer (some ⟨g, k * 2 + 1, none⟩) := hdl 7 76 (by decide) rfl
              obtain ⟨p74v, p74', p74g'⟩ : ∃ v, f 74 = v ∧ Gd Θw B N wx (.sl 0) v := ⟨_, rfl, hdl 5 74 (by decide) rfl⟩
              obtain ⟨p74a, p74n, p74c, rfl, -⟩ := p74g'.slice
              have p74 := p74'
              have p74g := Lib.hid p74g'
              clear p74' p74g'
              rw [show dsts _ _ = [69, 70, 71, 72, 73, 74, 75, 76] from by kernel_rfl]
              simp only [List.map_cons, List.map_nil, puts, Act.put, p76, p74]
              generalize f 69 = f69
              generalize f 70 = f70
              generalize f 71 = f71
              generalize f 72 = f72
              generalize f 73 = f73
              generalize f 75 = f75
              simp only [List.setIfInBounds_toArray, List.set_cons_zero, List.set_cons_succ]
              clear hdl p76 p74 f
              obtain ⟨mz, hstz, hmz1, hmz2⟩ := hrt.st
              have hgoz := Lib.hid (hrt.goes (fun _ => Nat.le_refl _))
              have hkpz := Lib.hid hrt.kp
              have hltz := Lib.hid hrt.lt
              have hstz := Lib.hid hstz
              have hexz := Lib.hid hrt.ex
              clear hrt
              have HT := Lib.hid (hgoz.out.tb _ _ _ HGB.out)
              obtain ⟨a3, n3, c3, d3, -, -⟩ := HT.out.ldL (i := k) (j := 1) (o := k * 2 + 1) hkc rfl rfl
              have z3 := HT.out.fz (k * 2 + 1)
              have hset : Goes Θw B N wx N (wx.setCell ⟨g, k * 2 + 1, none⟩ (.slice p74a p74n p74c)) := Goes.set (wSep 6 (by decide)) HT.out (f := .sl 0) (by rw [show (k * 2 + 1) % Θw.sz 6 = 1 from by show (k * 2 + 1) % 2 = 1; omega]; rfl) p74g.out
              have hks : Kept (fun b => b ≠ g) wx (wx.setCell ⟨g, k * 2 + 1, none⟩ (.slice p74a p74n p74c)) := Kept.setCell _ _ _ (fun h => h rfl)
              have HCF := Lib.hid (hks.cell hexz.out HNE.out)
              have hlow := HT.out.low
              have HF := Lib.hid (show GenX σ B N N n (2000000 + 1000 * (k + 1)) w0 (wx.setCell ⟨g, k * 2 + 1, none⟩ (.slice p74a p74n p74c)) mz from ⟨hstz.out.kept hks (fun j hj => by omega), by have := HGE.out.lo; omega, by omega, ((HGE.out.kp.trans2 HK4.out (fun _ _ _ => trivial)).trans hkpz.out).trans2 hks (fun x _ hx => by have := hx.1; omega), ((HGE.out.goes.trans (Goes.all HK4.out)).trans hgoz.out).trans hset, Nat.le_trans hltz.out hks.size⟩)
              have HGF := Lib.hid (((HGO.out.trans (Goes.all HK4.out)).trans hgoz.out).trans hset)
              clear hset hks hlow
              go_wp2_with fail
              go_roundw
              case rel => exact ⟨k + 1, mz, by omega, by go_num, HF.out, HGF.out, HCF.out⟩
              case measure => simp [intOf]; omega
          · have hd : decide ((k : Int) < (n2 : Int)) = false := by simp; omega
            have HWBZ := Lib.hid (HGO.out.tb _ _ _ HWB9.out)
            have HRBZ := Lib.hid (HGO.out.tb _ _ _ HRB9.out)
            obtain ⟨v0, y0, t0, v1, y1, t1, v2, y2, t2, v3, y3, t3, f0, f1, f2, f3, g0, g1, g2, g3⟩ := HWBZ.out.wld (by decide)
            obtain ⟨b0, o0, p0, b1, o1, p1, b2, o2, p2, b3, o3, p3, r0, r1, r2, r3, -⟩ := HRBZ.out.wld (by decide)
            have z0 := HRBZ.out.fz 0
            have z1 := HRBZ.out.fz 1
            have z2 := HRBZ.out.fz 2
            have z3 := HRBZ.out.fz 3
            obtain ⟨rc, hrc, -, -⟩ := HRBZ.out.ok
            have hrl := HRBZ.out.low
            have hset : Goes Θw B N wo N (wo.setCells (wb + 1) 0 [.slice v0 y0 t0, .slice v1 y1 t1, .slice v2 y2 t2, .slice v3 y3 t3]) := by
              have := Goes.puts (wSep 7 (by decide)) 0 [.slice v0 y0 t0, .slice v1 y1 t1, .slice v2 y2 t2, .slice v3 y3 t3] (Θw.fds 7) 0 wo HRBZ.out rfl ⟨g0, g1, g2, g3, trivial⟩
              simpa using this
            have hks : Kept (fun b => b ≠ wb + 1) wo (wo.setCells (wb + 1) 0 [.slice v0 y0 t0, .slice v1 y1 t1, .slice v2 y2 t2, .slice v3 y3 t3]) := kept_setCellsF (wb + 1) (fun h => h rfl) _ _ _
            have HWG := Lib.hid (show WldG B N (wo.setCells (wb + 1) 0 [.slice v0 y0 t0, .slice v1 y1 t1, .slice v2 y2 t2, .slice v3 y3 t3]) (.agg #[.slice v0 y0 t0, .slice v1 y1 t1, .slice v2 y2 t2, .slice v3 y3 t3]) from ⟨_, _, _, _, _, _, _, _, _, _, _, _, rfl, g0.goes hset, g1.goes hset, g2.goes hset, g3.goes hset⟩)
            have HF := Lib.hid (show GenW σ B N N n 10000000 w0 (wo.setCells (wb + 1) 0 [.slice v0 y0 t0, .slice v1 y1 t1, .slice v2 y2 t2, .slice v3 y3 t3]) m2 from ⟨HGE.out.st.kept hks (fun j hj => by omega), HGE.out.lo, by have := HGE.out.hi; omega, HGE.out.kp.trans2 hks (fun x _ hx => by have := hx.1; omega), HGE.out.goes.trans hset⟩)
            have j0 := heap_setCell_at wo (wb + 1) 0 (.slice v0 y0 t0) _ _ _ hrc
            have j1 := heap_setCell_at _ (wb + 1) 1 (.slice v1 y1 t1) _ _ _ j0
            have j2 := heap_setCell_at _ (wb + 1) 2 (.slice v2 y2 t2) _ _ _ j1
            have j3 := heap_setCell_at _ (wb + 1) 3 (.slice v3 y3 t3) _ _ _ j2
            have hsz : rc.size = 4 := by
              obtain ⟨rc', hrc', h4, -⟩ := HRBZ.out.ok
              rw [hrc] at hrc'
              have := Option.some.inj hrc'
              injection this with e _ _
              rw [e]; exact h4
            have q0 := cell_at (i := 0) (v := .slice v0 y0 t0) j3 (by simp [hsz])
            have q1' := cell_at (i := 1) (v := .slice v1 y1 t1) j3 (by simp [hsz])
            have q2' := cell_at (i := 2) (v := .slice v2 y2 t2) j3 (by simp [hsz])
            have q3' := cell_at (i := 3) (v := .slice v3 y3 t3) j3 (by simp [hsz])
            clear hset hks g0 g1 g2 g3 j0 j1 j2 j3 hrc hsz
            go_wp2_with fail
            refine bodyPost_ret (v := .agg #[.slice v0 y0 t0, .slice v1 y1 t1, .slice v2 y2 t2, .slice v3 y3 t3]) ?_ rfl ⟨_, m2, rfl, HWG.out, HF.out⟩
            simp [results, Tryz.results58, go_sem, q0, q1', q2', q3']
end Go.Proofs.YtgobnlgmbplggaaGreatDoor
