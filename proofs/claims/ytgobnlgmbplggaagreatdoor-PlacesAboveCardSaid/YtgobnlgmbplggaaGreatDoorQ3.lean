/- compareHomes, compareBonds. -/
import Derived.Test.YtgobnlgmbplggaaGreatDoorQ0
import Derived.Test.YtgobnlgmbplggaaGreatDoorSd
import Derived.Test.YtgobnlgmbplggaaGreatDoorP9
import Derived.Test.YtgobnlgmbplggaaGreatDoorSu
import Derived.Test.YtgobnlgmbplggaaGreatDoorSv
namespace Go.Proofs.YtgobnlgmbplggaaGreatDoor
open Go.RowKit Go.Sort

theorem orL_lex3 {α : Type} (f g h : α → α → Int) (x y : α) : orL [f x y, g x y, h x y] = lexC f (lexC g h) x y := by
  simp only [orL, lexC]
  split
  · rfl
  split
  · rfl
  split
  · rfl
  · omega
theorem orL_lex2 {α : Type} (f g : α → α → Int) (x y : α) : orL [f x y, g x y] = lexC f g x y := by
  simp only [orL, lexC]
  split
  · rfl
  split
  · rfl
  · omega
theorem orL_cfH (x y : Hom) : orL [cmpN x.frm y.frm, cmpB x.place y.place, cmpN x.til y.til] = cfH x y := orL_lex3 (fun x y : Hom => cmpN x.frm y.frm) (fun x y => cmpB x.place y.place) (fun x y => cmpN x.til y.til) x y
theorem orL_cfB (x y : Bnd) : orL [cmpB x.a y.a, cmpB x.b y.b] = cfB x y := orL_lex2 (fun x y : Bnd => cmpB x.a y.a) (fun x y => cmpB x.b y.b) x y

set_option maxRecDepth 100000 in
set_option maxHeartbeats 12800000 in
theorem compareHomes_any (x y : Hom) (w : World) :
    Calls Tryz.prog 239 #[.agg #[.string x.place, .int .i64 x.frm, .int .i64 x.til], .agg #[.string y.place, .int .i64 y.frm, .int .i64 y.til]] w fun e w' => e = .returned (.int .i64 (cfH x y)) ∧ AllD w w' := by
  have hk1 : AllD w ((w.alloc (.cells #[.string x.place, .int .i64 x.frm, .int .i64 x.til] 101)).alloc (.cells #[.string y.place, .int .i64 y.frm, .int .i64 y.til] 101)) := ((AllD.refl w).then_alloc _).then_alloc _
  have hbx := (Kept.alloc (fun _ => True) (w.alloc (.cells #[.string x.place, .int .i64 x.frm, .int .i64 x.til] 101)) (.cells #[.string y.place, .int .i64 y.frm, .int .i64 y.til] 101)).heap (heap_at w (.cells #[.string x.place, .int .i64 x.frm, .int .i64 x.til] 101) _ rfl) trivial
  have hby := heap_at (w.alloc (.cells #[.string x.place, .int .i64 x.frm, .int .i64 x.til] 101)) (.cells #[.string y.place, .int .i64 y.frm, .int .i64 y.til] 101) _ rfl
  obtain ⟨bx, hbx'⟩ : ∃ b, b = w.heap.size := ⟨_, rfl⟩
  obtain ⟨by', hby'⟩ : ∃ b, b = (w.alloc (.cells #[.string x.place, .int .i64 x.frm, .int .i64 x.til] 101)).heap.size := ⟨_, rfl⟩
  have hyx : by' = bx + 1 := by rw [hby', hbx']; simp
  rw [← hbx'] at hbx
  rw [← hby'] at hby
  have HCbx := Lib.hid (fun (wx : World) (k : All ((w.alloc (.cells #[.string x.place, .int .i64 x.frm, .int .i64 x.til] 101)).alloc (.cells #[.string y.place, .int .i64 y.frm, .int .i64 y.til] 101)) wx) => (⟨k.cell (cell_at (i := 0) hbx rfl) trivial, k.cell (cell_at (i := 1) hbx rfl) trivial, k.cell (cell_at (i := 2) hbx rfl) trivial⟩ : _ ∧ _ ∧ _))
  have HCby' := Lib.hid (fun (wx : World) (k : All ((w.alloc (.cells #[.string x.place, .int .i64 x.frm, .int .i64 x.til] 101)).alloc (.cells #[.string y.place, .int .i64 y.frm, .int .i64 y.til] 101)) wx) => (⟨k.cell (cell_at (i := 0) hby rfl) trivial, k.cell (cell_at (i := 1) hby rfl) trivial, k.cell (cell_at (i := 2) hby rfl) trivial⟩ : _ ∧ _ ∧ _))
  have HBX := Lib.hid hbx'
  have HYX := Lib.hid hyx
  clear hbx hby hbx' hby' hyx
  have HW := Lib.hid (orL_cfH x y)
  go_enter Tryz.func239, Tryz.ntmps239
  go_wp2_with fail
  simp only [← HBX.out]
  simp only [← HYX.out]
  generalize (w.alloc (.cells #[.string x.place, .int .i64 x.frm, .int .i64 x.til] 101)).alloc (.cells #[.string y.place, .int .i64 y.frm, .int .i64 y.til] 101) = w1 at *
  refine wp_region_inv 17 (by kernel_rfl) (by kernel_rfl) (by kernel_rfl) (fun _ wx => AllD w1 wx)
    (DL [QIs (.pointer (some ⟨bx, 1, none⟩)), QIs (.int .i64 x.frm), QIs (.pointer (some ⟨by', 1, none⟩)), QIs (.int .i64 y.frm), QIs (.int .i64 (cmpN x.frm y.frm)), QIs (.pointer (some ⟨bx, 0, none⟩)), QIs (.string x.place), QIs (.pointer (some ⟨by', 0, none⟩)), QIs (.string y.place), QIs (.int .i64 (cmpB x.place y.place)), QIs (.pointer (some ⟨bx, 2, none⟩)), QIs (.int .i64 x.til), QIs (.pointer (some ⟨by', 2, none⟩)), QIs (.int .i64 y.til), QIs (.int .i64 (cmpN x.til y.til)), QRowN #[Value.int .i64 (cmpN x.frm y.frm), Value.int .i64 (cmpB x.place y.place), Value.int .i64 (cmpN x.til y.til)] 3 3, QIs (.int .i64 (cfH x y))]) AllD
    (DL.keep (by simp only [List.forall_mem_cons, List.not_mem_nil, false_implies, implies_true, and_true]; exact ⟨QIs.staysD _, QIs.staysD _, QIs.staysD _, QIs.staysD _, QIs.staysD _, QIs.staysD _, QIs.staysD _, QIs.staysD _, QIs.staysD _, QIs.staysD _, QIs.staysD _, QIs.staysD _, QIs.staysD _, QIs.staysD _, QIs.staysD _, QRowN.staysD _ _ _, QIs.staysD _⟩)) ?_ ?_ ?_
  · exact (AllD.refl _).then_drew
  · intro i o t ho hd hi k' a' wx hk' hg hdf hts hoth hdeps
    have hz : i = 0 ∨ i = 1 ∨ i = 2 ∨ i = 3 ∨ i = 4 ∨ i = 5 ∨ i = 6 ∨ i = 7 ∨ i = 8 ∨ i = 9 ∨ i = 10 ∨ i = 11 ∨ i = 12 ∨ i = 13 ∨ i = 14 ∨ i = 15 ∨ i = 16 := by omega
    rcases hz with rfl | rfl | rfl | rfl | rfl | rfl | rfl | rfl | rfl | rfl | rfl | rfl | rfl | rfl | rfl | rfl | rfl
    · obtain rfl := Option.some.inj ho
      obtain rfl := Option.some.inj hd
      have e0 : a'.tmps.getD 2 undef = .pointer (some ⟨bx, 0, none⟩) := tmp_of ((hoth 2 (by decide)).trans rfl)
      clear hoth hdeps hdf hts ho
      refine wp_via (fun K' hK => ?_)
      have HK := Lib.hid hK
      clear hK
      go_simp
      exact HK.out _ _ ⟨_, rfl, hg, AllD.refl _, rfl⟩
    · obtain rfl := Option.some.inj ho
      obtain rfl := Option.some.inj hd
      have e0 : a'.tmps.getD 5 undef = .pointer (some ⟨bx, 1, none⟩) := hdeps 0 (by decide) 5 rfl
      have c0 := (HCbx.out _ hg.1).2.1
      clear hoth hdeps hdf hts ho
      refine wp_via (fun K' hK => ?_)
      have HK := Lib.hid hK
      clear hK
      go_simp
      exact HK.out _ _ ⟨_, rfl, hg, AllD.refl _, rfl⟩
    · obtain rfl := Option.some.inj ho
      obtain rfl := Option.some.inj hd
      have e0 : a'.tmps.getD 3 undef = .pointer (some ⟨by', 0, none⟩) := tmp_of ((hoth 3 (by decide)).trans rfl)
      clear hoth hdeps hdf hts ho
      refine wp_via (fun K' hK => ?_)
      have HK := Lib.hid hK
      clear hK
      go_simp
      exact HK.out _ _ ⟨_, rfl, hg, AllD.refl _, rfl⟩
    · obtain rfl := Option.some.inj ho
      obtain rfl := Option.some.inj hd
      have e0 : a'.tmps.getD 7 undef = .pointer (some ⟨by', 1, none⟩) := hdeps 2 (by decide) 7 rfl
      have c0 := (HCby'.out _ hg.1).2.1
      clear hoth hdeps hdf hts ho
      refine wp_via (fun K' hK => ?_)
      have HK := Lib.hid hK
      clear hK
      go_simp
      exact HK.out _ _ ⟨_, rfl, hg, AllD.refl _, rfl⟩
    · obtain rfl := Option.some.inj ho
      obtain rfl := Option.some.inj hd
      have e0 : a'.tmps.getD 6 undef = .int .i64 x.frm := hdeps 1 (by decide) 6 rfl
      have e1 : a'.tmps.getD 8 undef = .int .i64 y.frm := hdeps 3 (by decide) 8 rfl
      clear hoth hdeps hdf hts ho
      refine wp_via (fun K' hK => ?_)
      have HK := Lib.hid hK
      clear hK
      go_simp
      refine (compareN_any _ _ _).mono ?_
      rintro e w4 ⟨rfl, hw4⟩
      subst hw4
      exact HK.out _ _ ⟨_, rfl, hg, AllD.refl _, rfl⟩
    · obtain rfl := Option.some.inj ho
      obtain rfl := Option.some.inj hd
      have e0 : a'.tmps.getD 2 undef = .pointer (some ⟨bx, 0, none⟩) := tmp_of ((hoth 2 (by decide)).trans rfl)
      clear hoth hdeps hdf hts ho
      refine wp_via (fun K' hK => ?_)
      have HK := Lib.hid hK
      clear hK
      go_simp
      exact HK.out _ _ ⟨_, rfl, hg, AllD.refl _, rfl⟩
    · obtain rfl := Option.some.inj ho
      obtain rfl := Option.some.inj hd
      have e0 : a'.tmps.getD 10 undef = .pointer (some ⟨bx, 0, none⟩) := hdeps 5 (by decide) 10 rfl
      have c0 := (HCbx.out _ hg.1).1
      clear hoth hdeps hdf hts ho
      refine wp_via (fun K' hK => ?_)
      have HK := Lib.hid hK
      clear hK
      go_simp
      exact HK.out _ _ ⟨_, rfl, hg, AllD.refl _, rfl⟩
    · obtain rfl := Option.some.inj ho
      obtain rfl := Option.some.inj hd
      have e0 : a'.tmps.getD 3 undef = .pointer (some ⟨by', 0, none⟩) := tmp_of ((hoth 3 (by decide)).trans rfl)
      clear hoth hdeps hdf hts ho
      refine wp_via (fun K' hK => ?_)
      have HK := Lib.hid hK
      clear hK
      go_simp
      exact HK.out _ _ ⟨_, rfl, hg, AllD.refl _, rfl⟩
    · obtain rfl := Option.some.inj ho
      obtain rfl := Option.some.inj hd
      have e0 : a'.tmps.getD 12 undef = .pointer (some ⟨by', 0, none⟩) := hdeps 7 (by decide) 12 rfl
      have c0 := (HCby'.out _ hg.1).1
      clear hoth hdeps hdf hts ho
      refine wp_via (fun K' hK => ?_)
      have HK := Lib.hid hK
      clear hK
      go_simp
      exact HK.out _ _ ⟨_, rfl, hg, AllD.refl _, rfl⟩
    · obtain rfl := Option.some.inj ho
      obtain rfl := Option.some.inj hd
      have e0 : a'.tmps.getD 11 undef = .string x.place := hdeps 6 (by decide) 11 rfl
      have e1 : a'.tmps.getD 13 undef = .string y.place := hdeps 8 (by decide) 13 rfl
      clear hoth hdeps hdf hts ho
      refine wp_via (fun K' hK => ?_)
      have HK := Lib.hid hK
      clear hK
      go_simp
      refine (strCmp_any _ _ _).mono ?_
      rintro e w4 ⟨rfl, hw4⟩
      exact HK.out _ _ ⟨_, rfl, hg.trans hw4, hw4, rfl⟩
    · obtain rfl := Option.some.inj ho
      obtain rfl := Option.some.inj hd
      have e0 : a'.tmps.getD 2 undef = .pointer (some ⟨bx, 0, none⟩) := tmp_of ((hoth 2 (by decide)).trans rfl)
      clear hoth hdeps hdf hts ho
      refine wp_via (fun K' hK => ?_)
      have HK := Lib.hid hK
      clear hK
      go_simp
      exact HK.out _ _ ⟨_, rfl, hg, AllD.refl _, rfl⟩
    · obtain rfl := Option.some.inj ho
      obtain rfl := Option.some.inj hd
      have e0 : a'.tmps.getD 15 undef = .pointer (some ⟨bx, 2, none⟩) := hdeps 10 (by decide) 15 rfl
      have c0 := (HCbx.out _ hg.1).2.2
      clear hoth hdeps hdf hts ho
      refine wp_via (fun K' hK => ?_)
      have HK := Lib.hid hK
      clear hK
      go_simp
      exact HK.out _ _ ⟨_, rfl, hg, AllD.refl _, rfl⟩
    · obtain rfl := Option.some.inj ho
      obtain rfl := Option.some.inj hd
      have e0 : a'.tmps.getD 3 undef = .pointer (some ⟨by', 0, none⟩) := tmp_of ((hoth 3 (by decide)).trans rfl)
      clear hoth hdeps hdf hts ho
      refine wp_via (fun K' hK => ?_)
      have HK := Lib.hid hK
      clear hK
      go_simp
      exact HK.out _ _ ⟨_, rfl, hg, AllD.refl _, rfl⟩
    · obtain rfl := Option.some.inj ho
      obtain rfl := Option.some.inj hd
      have e0 : a'.tmps.getD 17 undef = .pointer (some ⟨by', 2, none⟩) := hdeps 12 (by decide) 17 rfl
      have c0 := (HCby'.out _ hg.1).2.2
      clear hoth hdeps hdf hts ho
      refine wp_via (fun K' hK => ?_)
      have HK := Lib.hid hK
      clear hK
      go_simp
      exact HK.out _ _ ⟨_, rfl, hg, AllD.refl _, rfl⟩
    · obtain rfl := Option.some.inj ho
      obtain rfl := Option.some.inj hd
      have e0 : a'.tmps.getD 16 undef = .int .i64 x.til := hdeps 11 (by decide) 16 rfl
      have e1 : a'.tmps.getD 18 undef = .int .i64 y.til := hdeps 13 (by decide) 18 rfl
      clear hoth hdeps hdf hts ho
      refine wp_via (fun K' hK => ?_)
      have HK := Lib.hid hK
      clear hK
      go_simp
      refine (compareN_any _ _ _).mono ?_
      rintro e w4 ⟨rfl, hw4⟩
      subst hw4
      exact HK.out _ _ ⟨_, rfl, hg, AllD.refl _, rfl⟩
    · obtain rfl := Option.some.inj ho
      obtain rfl := Option.some.inj hd
      have e0 : a'.tmps.getD 9 undef = Value.int .i64 (cmpN x.frm y.frm) := hdeps 4 (by decide) 9 rfl
      have e0' : a'.tmps[9]?.getD undef = Value.int .i64 (cmpN x.frm y.frm) := by rw [← Array.getD_eq_getD_getElem?]; exact e0
      have e1 : a'.tmps.getD 14 undef = Value.int .i64 (cmpB x.place y.place) := hdeps 9 (by decide) 14 rfl
      have e1' : a'.tmps[14]?.getD undef = Value.int .i64 (cmpB x.place y.place) := by rw [← Array.getD_eq_getD_getElem?]; exact e1
      have e2 : a'.tmps.getD 19 undef = Value.int .i64 (cmpN x.til y.til) := hdeps 14 (by decide) 19 rfl
      have e2' : a'.tmps[19]?.getD undef = Value.int .i64 (cmpN x.til y.til) := by rw [← Array.getD_eq_getD_getElem?]; exact e2
      clear hoth hdeps hdf hts ho
      refine wp_via (fun K' hK => ?_)
      have HK := Lib.hid hK
      clear hK
      go_simp
      exact HK.out _ _ ⟨_, rfl, hg.then_alloc _, (AllD.refl _).then_alloc _, ⟨wx.heap.size, rfl, heap_at _ _ _ rfl⟩⟩
    · obtain rfl := Option.some.inj ho
      obtain rfl := Option.some.inj hd
      obtain ⟨b9, e0, hb9⟩ : QRowN #[Value.int .i64 (cmpN x.frm y.frm), Value.int .i64 (cmpB x.place y.place), Value.int .i64 (cmpN x.til y.til)] 3 3 (a'.tmps.getD 20 undef) wx := hdeps 15 (by decide) 20 rfl
      have hsl : Sl RInt 1 (fun _ => True) wx (some ⟨b9, 0, none⟩) 3 [cmpN x.frm y.frm, cmpB x.place y.place, cmpN x.til y.til] := Sl.lit_ints _ hb9 rfl trivial
      have HO := Lib.hid (orI_any _ 3 3 _ wx hsl (by decide))
      rw [HW.out] at HO
      clear hb9 hsl
      clear hoth hdeps hdf hts ho
      refine wp_via (fun K' hK => ?_)
      have HK := Lib.hid hK
      clear hK
      go_simp
      refine HO.out.mono ?_
      rintro e w4 ⟨rfl, hw4⟩
      subst hw4
      exact HK.out _ _ ⟨_, rfl, hg, AllD.refl _, rfl⟩
  · intro wx f hg hd
    have e9 : f 21 = .int .i64 (cfH x y) := hd 16 21 (by decide) rfl
    rw [show dsts _ 17 = [5, 6, 7, 8, 9, 10, 11, 12, 13, 14, 15, 16, 17, 18, 19, 20, 21] from by kernel_rfl]
    simp only [List.map_cons, List.map_nil, puts, Act.put, e9, List.drop_succ_cons, List.drop_zero]
    generalize f 5 = f5
    generalize f 6 = f6
    generalize f 7 = f7
    generalize f 8 = f8
    generalize f 9 = f9
    generalize f 10 = f10
    generalize f 11 = f11
    generalize f 12 = f12
    generalize f 13 = f13
    generalize f 14 = f14
    generalize f 15 = f15
    generalize f 16 = f16
    generalize f 17 = f17
    generalize f 18 = f18
    generalize f 19 = f19
    generalize f 20 = f20
    simp only [List.setIfInBounds_toArray, List.set_cons_zero, List.set_cons_succ]
    have hkx := hk1.trans hg
    clear hd e9 f hg hk1
    go_wp2_with fail
    go_ret
    exact ⟨rfl, hkx⟩
set_option maxRecDepth 100000 in
set_option maxHeartbeats 12800000 in
theorem compareBonds_any (x y : Bnd) (w : World) :
    Calls Tryz.prog 89 #[.agg #[.string x.a, .string x.b], .agg #[.string y.a, .string y.b]] w fun e w' => e = .returned (.int .i64 (cfB x y)) ∧ AllD w w' := by
  have hk1 : AllD w ((w.alloc (.cells #[.string x.a, .string x.b] 75)).alloc (.cells #[.string y.a, .string y.b] 75)) := ((AllD.refl w).then_alloc _).then_alloc _
  have hbx := (Kept.alloc (fun _ => True) (w.alloc (.cells #[.string x.a, .string x.b] 75)) (.cells #[.string y.a, .string y.b] 75)).heap (heap_at w (.cells #[.string x.a, .string x.b] 75) _ rfl) trivial
  have hby := heap_at (w.alloc (.cells #[.string x.a, .string x.b] 75)) (.cells #[.string y.a, .string y.b] 75) _ rfl
  obtain ⟨bx, hbx'⟩ : ∃ b, b = w.heap.size := ⟨_, rfl⟩
  obtain ⟨by', hby'⟩ : ∃ b, b = (w.alloc (.cells #[.string x.a, .string x.b] 75)).heap.size := ⟨_, rfl⟩
  have hyx : by' = bx + 1 := by rw [hby', hbx']; simp
  rw [← hbx'] at hbx
  rw [← hby'] at hby
  have HCbx := Lib.hid (fun (wx : World) (k : All ((w.alloc (.cells #[.string x.a, .string x.b] 75)).alloc (.cells #[.string y.a, .string y.b] 75)) wx) => (⟨k.cell (cell_at (i := 0) hbx rfl) trivial, k.cell (cell_at (i := 1) hbx rfl) trivial⟩ : _ ∧ _))
  have HCby' := Lib.hid (fun (wx : World) (k : All ((w.alloc (.cells #[.string x.a, .string x.b] 75)).alloc (.cells #[.string y.a, .string y.b] 75)) wx) => (⟨k.cell (cell_at (i := 0) hby rfl) trivial, k.cell (cell_at (i := 1) hby rfl) trivial⟩ : _ ∧ _))
  have HBX := Lib.hid hbx'
  have HYX := Lib.hid hyx
  clear hbx hby hbx' hby' hyx
  have HW := Lib.hid (orL_cfB x y)
  go_enter Tryz.func89, Tryz.ntmps89
  go_wp2_with fail
  simp only [← HBX.out]
  simp only [← HYX.out]
  generalize (w.alloc (.cells #[.string x.a, .string x.b] 75)).alloc (.cells #[.string y.a, .string y.b] 75) = w1 at *
  refine wp_region_inv 12 (by kernel_rfl) (by kernel_rfl) (by kernel_rfl) (fun _ wx => AllD w1 wx)
    (DL [QIs (.pointer (some ⟨bx, 0, none⟩)), QIs (.string x.a), QIs (.pointer (some ⟨by', 0, none⟩)), QIs (.string y.a), QIs (.int .i64 (cmpB x.a y.a)), QIs (.pointer (some ⟨bx, 1, none⟩)), QIs (.string x.b), QIs (.pointer (some ⟨by', 1, none⟩)), QIs (.string y.b), QIs (.int .i64 (cmpB x.b y.b)), QRowN #[Value.int .i64 (cmpB x.a y.a), Value.int .i64 (cmpB x.b y.b)] 3 2, QIs (.int .i64 (cfB x y))]) AllD
    (DL.keep (by simp only [List.forall_mem_cons, List.not_mem_nil, false_implies, implies_true, and_true]; exact ⟨QIs.staysD _, QIs.staysD _, QIs.staysD _, QIs.staysD _, QIs.staysD _, QIs.staysD _, QIs.staysD _, QIs.staysD _, QIs.staysD _, QIs.staysD _, QRowN.staysD _ _ _, QIs.staysD _⟩)) ?_ ?_ ?_
  · exact (AllD.refl _).then_drew
  · intro i o t ho hd hi k' a' wx hk' hg hdf hts hoth hdeps
    have hz : i = 0 ∨ i = 1 ∨ i = 2 ∨ i = 3 ∨ i = 4 ∨ i = 5 ∨ i = 6 ∨ i = 7 ∨ i = 8 ∨ i = 9 ∨ i = 10 ∨ i = 11 := by omega
    rcases hz with rfl | rfl | rfl | rfl | rfl | rfl | rfl | rfl | rfl | rfl | rfl | rfl
    · obtain rfl := Option.some.inj ho
      obtain rfl := Option.some.inj hd
      have e0 : a'.tmps.getD 2 undef = .pointer (some ⟨bx, 0, none⟩) := tmp_of ((hoth 2 (by decide)).trans rfl)
      clear hoth hdeps hdf hts ho
      refine wp_via (fun K' hK => ?_)
      have HK := Lib.hid hK
      clear hK
      go_simp
      exact HK.out _ _ ⟨_, rfl, hg, AllD.refl _, rfl⟩
    · obtain rfl := Option.some.inj ho
      obtain rfl := Option.some.inj hd
      have e0 : a'.tmps.getD 5 undef = .pointer (some ⟨bx, 0, none⟩) := hdeps 0 (by decide) 5 rfl
      have c0 := (HCbx.out _ hg.1).1
      clear hoth hdeps hdf hts ho
      refine wp_via (fun K' hK => ?_)
      have HK := Lib.hid hK
      clear hK
      go_simp
      exact HK.out _ _ ⟨_, rfl, hg, AllD.refl _, rfl⟩
    · obtain rfl := Option.some.inj ho
      obtain rfl := Option.some.inj hd
      have e0 : a'.tmps.getD 3 undef = .pointer (some ⟨by', 0, none⟩) := tmp_of ((hoth 3 (by decide)).trans rfl)
      clear hoth hdeps hdf hts ho
      refine wp_via (fun K' hK => ?_)
      have HK := Lib.hid hK
      clear hK
      go_simp
      exact HK.out _ _ ⟨_, rfl, hg, AllD.refl _, rfl⟩
    · obtain rfl := Option.some.inj ho
      obtain rfl := Option.some.inj hd
      have e0 : a'.tmps.getD 7 undef = .pointer (some ⟨by', 0, none⟩) := hdeps 2 (by decide) 7 rfl
      have c0 := (HCby'.out _ hg.1).1
      clear hoth hdeps hdf hts ho
      refine wp_via (fun K' hK => ?_)
      have HK := Lib.hid hK
      clear hK
      go_simp
      exact HK.out _ _ ⟨_, rfl, hg, AllD.refl _, rfl⟩
    · obtain rfl := Option.some.inj ho
      obtain rfl := Option.some.inj hd
      have e0 : a'.tmps.getD 6 undef = .string x.a := hdeps 1 (by decide) 6 rfl
      have e1 : a'.tmps.getD 8 undef = .string y.a := hdeps 3 (by decide) 8 rfl
      clear hoth hdeps hdf hts ho
      refine wp_via (fun K' hK => ?_)
      have HK := Lib.hid hK
      clear hK
      go_simp
      refine (strCmp_any _ _ _).mono ?_
      rintro e w4 ⟨rfl, hw4⟩
      exact HK.out _ _ ⟨_, rfl, hg.trans hw4, hw4, rfl⟩
    · obtain rfl := Option.some.inj ho
      obtain rfl := Option.some.inj hd
      have e0 : a'.tmps.getD 2 undef = .pointer (some ⟨bx, 0, none⟩) := tmp_of ((hoth 2 (by decide)).trans rfl)
      clear hoth hdeps hdf hts ho
      refine wp_via (fun K' hK => ?_)
      have HK := Lib.hid hK
      clear hK
      go_simp
      exact HK.out _ _ ⟨_, rfl, hg, AllD.refl _, rfl⟩
    · obtain rfl := Option.some.inj ho
      obtain rfl := Option.some.inj hd
      have e0 : a'.tmps.getD 10 undef = .pointer (some ⟨bx, 1, none⟩) := hdeps 5 (by decide) 10 rfl
      have c0 := (HCbx.out _ hg.1).2
      clear hoth hdeps hdf hts ho
      refine wp_via (fun K' hK => ?_)
      have HK := Lib.hid hK
      clear hK
      go_simp
      exact HK.out _ _ ⟨_, rfl, hg, AllD.refl _, rfl⟩
    · obtain rfl := Option.some.inj ho
      obtain rfl := Option.some.inj hd
      have e0 : a'.tmps.getD 3 undef = .pointer (some ⟨by', 0, none⟩) := tmp_of ((hoth 3 (by decide)).trans rfl)
      clear hoth hdeps hdf hts ho
      refine wp_via (fun K' hK => ?_)
      have HK := Lib.hid hK
      clear hK
      go_simp
      exact HK.out _ _ ⟨_, rfl, hg, AllD.refl _, rfl⟩
    · obtain rfl := Option.some.inj ho
      obtain rfl := Option.some.inj hd
      have e0 : a'.tmps.getD 12 undef = .pointer (some ⟨by', 1, none⟩) := hdeps 7 (by decide) 12 rfl
      have c0 := (HCby'.out _ hg.1).2
      clear hoth hdeps hdf hts ho
      refine wp_via (fun K' hK => ?_)
      have HK := Lib.hid hK
      clear hK
      go_simp
      exact HK.out _ _ ⟨_, rfl, hg, AllD.refl _, rfl⟩
    · obtain rfl := Option.some.inj ho
      obtain rfl := Option.some.inj hd
      have e0 : a'.tmps.getD 11 undef = .string x.b := hdeps 6 (by decide) 11 rfl
      have e1 : a'.tmps.getD 13 undef = .string y.b := hdeps 8 (by decide) 13 rfl
      clear hoth hdeps hdf hts ho
      refine wp_via (fun K' hK => ?_)
      have HK := Lib.hid hK
      clear hK
      go_simp
      refine (strCmp_any _ _ _).mono ?_
      rintro e w4 ⟨rfl, hw4⟩
      exact HK.out _ _ ⟨_, rfl, hg.trans hw4, hw4, rfl⟩
    · obtain rfl := Option.some.inj ho
      obtain rfl := Option.some.inj hd
      have e0 : a'.tmps.getD 9 undef = Value.int .i64 (cmpB x.a y.a) := hdeps 4 (by decide) 9 rfl
      have e0' : a'.tmps[9]?.getD undef = Value.int .i64 (cmpB x.a y.a) := by rw [← Array.getD_eq_getD_getElem?]; exact e0
      have e1 : a'.tmps.getD 14 undef = Value.int .i64 (cmpB x.b y.b) := hdeps 9 (by decide) 14 rfl
      have e1' : a'.tmps[14]?.getD undef = Value.int .i64 (cmpB x.b y.b) := by rw [← Array.getD_eq_getD_getElem?]; exact e1
      clear hoth hdeps hdf hts ho
      refine wp_via (fun K' hK => ?_)
      have HK := Lib.hid hK
      clear hK
      go_simp
      exact HK.out _ _ ⟨_, rfl, hg.then_alloc _, (AllD.refl _).then_alloc _, ⟨wx.heap.size, rfl, heap_at _ _ _ rfl⟩⟩
    · obtain rfl := Option.some.inj ho
      obtain rfl := Option.some.inj hd
      obtain ⟨b9, e0, hb9⟩ : QRowN #[Value.int .i64 (cmpB x.a y.a), Value.int .i64 (cmpB x.b y.b)] 3 2 (a'.tmps.getD 15 undef) wx := hdeps 10 (by decide) 15 rfl
      have hsl : Sl RInt 1 (fun _ => True) wx (some ⟨b9, 0, none⟩) 2 [cmpB x.a y.a, cmpB x.b y.b] := Sl.lit_ints _ hb9 rfl trivial
      have HO := Lib.hid (orI_any _ 2 2 _ wx hsl (by decide))
      rw [HW.out] at HO
      clear hb9 hsl
      clear hoth hdeps hdf hts ho
      refine wp_via (fun K' hK => ?_)
      have HK := Lib.hid hK
      clear hK
      go_simp
      refine HO.out.mono ?_
      rintro e w4 ⟨rfl, hw4⟩
      subst hw4
      exact HK.out _ _ ⟨_, rfl, hg, AllD.refl _, rfl⟩
  · intro wx f hg hd
    have e9 : f 16 = .int .i64 (cfB x y) := hd 11 16 (by decide) rfl
    rw [show dsts _ 12 = [5, 6, 7, 8, 9, 10, 11, 12, 13, 14, 15, 16] from by kernel_rfl]
    simp only [List.map_cons, List.map_nil, puts, Act.put, e9, List.drop_succ_cons, List.drop_zero]
    generalize f 5 = f5
    generalize f 6 = f6
    generalize f 7 = f7
    generalize f 8 = f8
    generalize f 9 = f9
    generalize f 10 = f10
    generalize f 11 = f11
    generalize f 12 = f12
    generalize f 13 = f13
    generalize f 14 = f14
    generalize f 15 = f15
    simp only [List.setIfInBounds_toArray, List.set_cons_zero, List.set_cons_succ]
    have hkx := hk1.trans hg
    clear hd e9 f hg hk1
    go_wp2_with fail
    go_ret
    exact ⟨rfl, hkx⟩
end Go.Proofs.YtgobnlgmbplggaaGreatDoor

/- homesFault of the program. -/
namespace Go.Proofs.YtgobnlgmbplggaaGreatDoor
open Go.RowKit

section
variable {ps : List Plc} {l : List Hom} {k : Nat} {x : Hom} {p : Option Hom}
theorem homE_none (h : hasP ps x.place = false) : homE ps p x = 8 := by rw [homE, if_pos h]
theorem homE_arg (h : hasP ps x.place = true) (h2 : x.frm < 0 ∨ x.til ≤ x.frm ∨ 4001 < x.til) : homE ps p x = 1 := by rw [homE, if_neg (by rw [h]; decide), if_pos h2]
theorem homE_order (h : hasP ps x.place = true) (h2 : ¬ (x.frm < 0 ∨ x.til ≤ x.frm ∨ 4001 < x.til)) (h3 : notOver cfH p x = true) : homE ps p x = 7 := by rw [homE, if_neg (by rw [h]; decide), if_neg h2, if_pos h3]
theorem homE_ok (h : hasP ps x.place = true) (h2 : ¬ (x.frm < 0 ∨ x.til ≤ x.frm ∨ 4001 < x.til)) (h3 : notOver cfH p x = false) : homE ps p x = 0 := by rw [homE, if_neg (by rw [h]; decide), if_neg h2, if_neg (by rw [h3]; decide)]
theorem homesF_large (h : 20 < l.length) : homesF ps l = 2 := by rw [homesF, if_pos h]
theorem homesF_scan (h : ¬ 20 < l.length) : homesF ps l = scanF (homE ps) none l := by rw [homesF, if_neg h]
end
set_option maxRecDepth 100000 in
set_option maxHeartbeats 12800000 in
theorem homesFault_any (a : Option Addr) (len cap : Nat) (l : List Hom) (ps : List Plc) (mb n : Nat) (w : World) (hs : Sl RHom 3 (fun _ => True) w a len l) (hl : len ≤ 100000) (hm : MapS Tryz.prog 9 w mb n (upV ps)) :
    Calls Tryz.prog 181 #[.slice a len cap, .map (some mb)] w fun e w' => e = .returned (.int .i64 (homesF ps l)) ∧ All w w' := by
  have HLEN := Lib.hid hs.len
  by_cases hbig : 20 < len
  · have hd0 : decide ((20 : Int) < (len : Int)) = true := by simp; omega
    have HF := Lib.hid (homesF_large (ps := ps) (l := l) (by have := HLEN.out; omega))
    clear hs hm
    go_enter Tryz.func181, Tryz.ntmps181
    go_wp2_with fail
    go_ret
    exact ⟨ret_int' HF.out.symm, Kept.refl _ _⟩
  have hd0 : decide ((20 : Int) < (len : Int)) = false := by simp; omega
  have HSC := Lib.hid (homesF_scan (ps := ps) (l := l) (by have := HLEN.out; omega))
  have HS := Lib.hid (fun (wx : World) (k : All w wx) => hs.keep RHom.ok k)
  have HM := Lib.hid (fun (wx : World) (k : All w wx) => hm.keep k trivial)
  clear hs hm
  go_enter Tryz.func181, Tryz.ntmps181
  go_wp2_with fail
  go_loopw [12] (fun i wr => ∃ k : Nat, k ≤ len ∧ i = .int .i64 k ∧ ScanAt (homE ps) l k ∧ All w wr) (fun i _ => len - (intOf i).toNat)
  case atStart => exact ⟨0, Nat.zero_le _, rfl, ScanAt.zero _ _, Kept.refl _ _⟩
  case round =>
    obtain ⟨k, hk, rfl, hat, hall⟩ := hrel
    obtain ⟨wo, rfl⟩ : ∃ wo : World, wo = wr := ⟨_, rfl⟩
    by_cases hlt : k < len
    · obtain ⟨b, off, x, ha, -, c0, c1, c2, ⟨hx1, hx2, hx3⟩, hx, -⟩ := (HS.out _ hall).atHom hlt
      subst ha
      have HX := Lib.hid hx
      clear hx
      have HU := Lib.hid (fun (wx : World) (kx : All w wx) => hasU_any mb n ps x.place wx (HM.out _ kx) hx1)
      have hb9 := heap_at wo (.cells #[.string x.place, .int .i64 x.frm, .int .i64 x.til] 101) _ rfl
      obtain ⟨xb, hxb⟩ : ∃ z, z = wo.heap.size := ⟨_, rfl⟩
      have HXB := Lib.hid hxb
      rw [← hxb] at hb9
      have hall' : All w (wo.alloc (.cells #[.string x.place, .int .i64 x.frm, .int .i64 x.til] 101)) := hall.then_alloc _
      clear hxb hall
      go_upto_region 6 with fail
      simp only [← HXB.out]
      generalize wo.alloc (.cells #[.string x.place, .int .i64 x.frm, .int .i64 x.til] 101) = w9 at *
      have hall := hall'
      have e0 := cell_at (i := 0) hb9 rfl
      have e1 := cell_at (i := 1) hb9 rfl
      have e2 := cell_at (i := 2) hb9 rfl
      clear hb9 c0 c1 c2 hall'
      cases hhas : hasP ps x.place with
      | false =>
        have HF := Lib.hid (show homesF ps l = 8 from by rw [HSC.out]; exact hat.bad HX.out (homE_none hhas) (by decide))
        clear hat
        go_wp2_with fail
        refine (HU.out _ (by repeat (first | exact hall | refine Kept.then_drew ?_ | refine Kept.then_drewN ?_ _ | refine Kept.then_alloc ?_ _))).mono ?_
        rintro e w' ⟨rfl, rfl⟩
        rw [hhas]
        go_wp2_with fail
        go_ret
        exact ⟨ret_int' HF.out.symm, (by repeat (first | exact hall | refine Kept.then_drew ?_ | refine Kept.then_drewN ?_ _ | refine Kept.then_alloc ?_ _))⟩
      | true =>
      by_cases hA : x.frm < 0 ∨ x.til ≤ x.frm ∨ 4001 < x.til
      · have HF := Lib.hid (show homesF ps l = 1 from by rw [HSC.out]; exact hat.bad HX.out (homE_arg hhas hA) (by decide))
        clear hat
        by_cases h1 : x.frm < 0
        · have d1 : decide (x.frm < 0) = true := by simpa using h1
          clear hA
          go_wp2_with fail
          refine (HU.out _ (by repeat (first | exact hall | refine Kept.then_drew ?_ | refine Kept.then_drewN ?_ _ | refine Kept.then_alloc ?_ _))).mono ?_
          rintro e w' ⟨rfl, rfl⟩
          rw [hhas]
          go_wp2_with fail
          go_ret
          exact ⟨ret_int' HF.out.symm, (by repeat (first | exact hall | refine Kept.then_drew ?_ | refine Kept.then_drewN ?_ _ | refine Kept.then_alloc ?_ _))⟩
        · have d1 : decide (x.frm < 0) = false := by simpa using h1
          by_cases h2 : x.til ≤ x.frm
          · have d2 : decide (x.til ≤ x.frm) = true := by simpa using h2
            clear hA
            go_wp2_with fail
            refine (HU.out _ (by repeat (first | exact hall | refine Kept.then_drew ?_ | refine Kept.then_drewN ?_ _ | refine Kept.then_alloc ?_ _))).mono ?_
            rintro e w' ⟨rfl, rfl⟩
            rw [hhas]
            go_wp2_with fail
            go_ret
            exact ⟨ret_int' HF.out.symm, (by repeat (first | exact hall | refine Kept.then_drew ?_ | refine Kept.then_drewN ?_ _ | refine Kept.then_alloc ?_ _))⟩
          · have d2 : decide (x.til ≤ x.frm) = false := by simpa using h2
            have d3 : decide ((4001 : Int) < x.til) = true := by simp; omega
            clear hA
            go_wp2_with fail
            refine (HU.out _ (by repeat (first | exact hall | refine Kept.then_drew ?_ | refine Kept.then_drewN ?_ _ | refine Kept.then_alloc ?_ _))).mono ?_
            rintro e w' ⟨rfl, rfl⟩
            rw [hhas]
            go_wp2_with fail
            go_ret
            exact ⟨ret_int' HF.out.symm, (by repeat (first | exact hall | refine Kept.then_drew ?_ | refine Kept.then_drewN ?_ _ | refine Kept.then_alloc ?_ _))⟩
      have d1 : decide (x.frm < 0) = false := by simp; omega
      have d2 : decide (x.til ≤ x.frm) = false := by simp; omega
      have d3 : decide ((4001 : Int) < x.til) = false := by simp; omega
      rcases k with _ | k
      · have HN := Lib.hid (hat.next HX.out (homE_ok hhas hA rfl))
        clear hat hA
        go_wp2_with fail
        refine (HU.out _ (by repeat (first | exact hall | refine Kept.then_drew ?_ | refine Kept.then_drewN ?_ _ | refine Kept.then_alloc ?_ _))).mono ?_
        rintro e w' ⟨rfl, rfl⟩
        rw [hhas]
        go_upto_region 10 with fail
        go_quiet (fail)
        go_wp2_with fail
        go_roundw
        case rel => exact ⟨1, by omega, rfl, HN.out, (by repeat (first | exact hall | refine Kept.then_drew ?_ | refine Kept.then_drewN ?_ _ | refine Kept.then_alloc ?_ _))⟩
        case measure => simp [intOf]; omega
      · have f1 : (0 : Int) ≤ (k : Int) := by omega
        have f2 : (k : Int) < (len : Int) := by omega
        have f3 : k < len := by omega
        have f4 : IntKind.i64.wrap (k : Int) = (k : Int) := IntWalk.i64_in _ (by omega)
        obtain ⟨b', off', y, ha', -, d0, d4, d5, -, hy, -⟩ := (HS.out _ hall).atHom (k := k) f3
        cases ha'
        have f5 := lt_of_cell d0
        have hpv := Lib.hid (show prevAt l (k + 1) = some y from prevAt_succ hy)
        have HCMP := Lib.hid (fun (wx : World) => compareHomes_any y x wx)
        clear hy
        obtain ⟨z, hz⟩ : ∃ z, z = cfH y x := ⟨_, rfl⟩
        rw [← hz] at HCMP
        by_cases hup : 0 ≤ z
        · have g0 : decide ((0 : Int) ≤ z) = true := by simpa using hup
          have he : homE ps (prevAt l (k + 1)) x = 7 := by rw [hpv.out]; exact homE_order hhas hA (by show decide (0 ≤ cfH y x) = true; rw [← hz]; exact g0)
          have HF := Lib.hid (show homesF ps l = 7 from by rw [HSC.out]; exact hat.bad HX.out he (by decide))
          clear hat hup he hA hz
          go_wp2_with fail
          refine (HU.out _ (by repeat (first | exact hall | refine Kept.then_drew ?_ | refine Kept.then_drewN ?_ _ | refine Kept.then_alloc ?_ _))).mono ?_
          rintro e w' ⟨rfl, rfl⟩
          rw [hhas]
          go_upto_region 10 with fail
          go_region_held3 (fun w' => w'.cell? ⟨b, off + k * 3, none⟩ = some (.string y.place) ∧ w'.cell? ⟨b, off + k * 3 + 1, none⟩ = some (.int .i64 y.frm) ∧ w'.cell? ⟨b, off + k * 3 + 2, none⟩ = some (.int .i64 y.til) ∧ w'.cell? ⟨xb, 0, none⟩ = some (.string x.place) ∧ w'.cell? ⟨xb, 1, none⟩ = some (.int .i64 x.frm) ∧ w'.cell? ⟨xb, 2, none⟩ = some (.int .i64 x.til)) (first | exact ⟨d0, d4, d5, e0, e1, e2⟩ | exact ⟨m0, m1, m2, m3, m4, m5⟩ | go_keep) (first | (go_at_call 239; refine (HCMP.out _).mono ?_; rintro e wa ⟨rfl, hwa⟩; have m0 := hwa.1.cell d0 trivial; have m1 := hwa.1.cell d4 trivial; have m2 := hwa.1.cell d5 trivial; have m3 := hwa.1.cell e0 trivial; have m4 := hwa.1.cell e1 trivial; have m5 := hwa.1.cell e2 trivial; have hall := Kept.trans (show All w _ from (by repeat (first | exact hall | refine Kept.then_drew ?_ | refine Kept.then_drewN ?_ _ | refine Kept.then_alloc ?_ _))) hwa.1))
          go_wp2_with fail
          go_ret
          exact ⟨ret_int' HF.out.symm, (by repeat (first | exact hall | refine Kept.then_drew ?_ | refine Kept.then_drewN ?_ _ | refine Kept.then_alloc ?_ _))⟩
        · have g0 : decide ((0 : Int) ≤ z) = false := by simpa using hup
          have he : homE ps (prevAt l (k + 1)) x = 0 := by rw [hpv.out]; exact homE_ok hhas hA (by show decide (0 ≤ cfH y x) = false; rw [← hz]; exact g0)
          have HN := Lib.hid (hat.next HX.out he)
          clear hat hup he hA hz
          go_wp2_with fail
          refine (HU.out _ (by repeat (first | exact hall | refine Kept.then_drew ?_ | refine Kept.then_drewN ?_ _ | refine Kept.then_alloc ?_ _))).mono ?_
          rintro e w' ⟨rfl, rfl⟩
          rw [hhas]
          go_upto_region 10 with fail
          go_region_held3 (fun w' => w'.cell? ⟨b, off + k * 3, none⟩ = some (.string y.place) ∧ w'.cell? ⟨b, off + k * 3 + 1, none⟩ = some (.int .i64 y.frm) ∧ w'.cell? ⟨b, off + k * 3 + 2, none⟩ = some (.int .i64 y.til) ∧ w'.cell? ⟨xb, 0, none⟩ = some (.string x.place) ∧ w'.cell? ⟨xb, 1, none⟩ = some (.int .i64 x.frm) ∧ w'.cell? ⟨xb, 2, none⟩ = some (.int .i64 x.til)) (first | exact ⟨d0, d4, d5, e0, e1, e2⟩ | exact ⟨m0, m1, m2, m3, m4, m5⟩ | go_keep) (first | (go_at_call 239; refine (HCMP.out _).mono ?_; rintro e wa ⟨rfl, hwa⟩; have m0 := hwa.1.cell d0 trivial; have m1 := hwa.1.cell d4 trivial; have m2 := hwa.1.cell d5 trivial; have m3 := hwa.1.cell e0 trivial; have m4 := hwa.1.cell e1 trivial; have m5 := hwa.1.cell e2 trivial; have hall := Kept.trans (show All w _ from (by repeat (first | exact hall | refine Kept.then_drew ?_ | refine Kept.then_drewN ?_ _ | refine Kept.then_alloc ?_ _))) hwa.1))
          go_wp2_with fail
          go_roundw
          case rel => exact ⟨k + 1 + 1, by omega, by go_num, HN.out, (by repeat (first | exact hall | refine Kept.then_drew ?_ | refine Kept.then_drewN ?_ _ | refine Kept.then_alloc ?_ _))⟩
          case measure => simp [intOf]; omega
    · have hd : decide ((k : Int) < (len : Int)) = false := by simp; omega
      have HF := Lib.hid (show homesF ps l = 0 from by rw [HSC.out]; exact hat.ok (by have := HLEN.out; omega))
      clear hat
      go_wp2_with fail
      go_ret
      exact ⟨ret_int' HF.out.symm, hall⟩
end Go.Proofs.YtgobnlgmbplggaaGreatDoor

/- isMail, mailsFault of the program. -/
namespace Go.Proofs.YtgobnlgmbplggaaGreatDoor
open Go.RowKit

theorem mail_all {s : ByteArray} (h : ∀ (j : Nat) (hj : j < s.size), mailC s[j] = true) : s.data.toList.all mailC = true := by
  rw [List.all_eq_true]
  intro b hb
  obtain ⟨k, hk, rfl⟩ := List.mem_iff_getElem.1 hb
  have hk2 : k < s.size := by rw [ByteArray.size]; simpa using hk
  have h1 := h k hk2
  exact h1
theorem mail_not {s : ByteArray} {k : Nat} (hk : k < s.size) (h : mailC s[k] = false) : mailB s = false := by
  have h1 : s.data.toList.all mailC = false := by
    rw [Bool.eq_false_iff]
    intro ha
    have h2 := List.all_eq_true.1 ha s[k] (Array.getElem_mem_toList _)
    rw [h] at h2; exact nomatch h2
  rw [mailB, h1]; rfl
theorem mailB_of {s : ByteArray} (h : s.data.toList.all mailC = true) : mailB s = ((decide (3 ≤ s.size) && decide (s.size ≤ 80)) && (decide (0 < Lib.indexByte s.data.toList 64) && decide (Lib.indexByte s.data.toList 64 < (s.size : Int) - 1)) && decide (Lib.countByte s.data.toList 64 = 1)) := by
  rw [mailB, h, Bool.true_and]
theorem ret_bool {a b : Bool} (h : a = b) : Ending.returned (.bool a) = Ending.returned (.bool b) := by rw [h]
set_option maxRecDepth 100000 in
set_option maxHeartbeats 12800000 in
theorem isMail_any (s : ByteArray) (w : World) (hs : s.size ≤ 1000000) :
    Calls Tryz.prog 240 #[.string s] w fun e w' => e = .returned (.bool (mailB s)) ∧ w' = w := by
  have HIX := Lib.hid (fun (wx : World) => (show Calls Tryz.prog 283 #[.string s, .int .u8 64] wx fun e w' => e = .returned (.int .i64 (Lib.indexByte s.data.toList 64)) ∧ w' = wx from Tryz.strings_IndexByte s 64 wx))
  have HCT := Lib.hid (fun (wx : World) => Tryz.strings_Count_one s 64 wx)
  go_enter Tryz.func240, Tryz.ntmps240
  go_wp2_with fail
  go_loopw [3] (fun i wr => ∃ k : Nat, k ≤ s.size ∧ i = .int .i64 k ∧ (∀ (j : Nat) (hj : j < s.size), j < k → mailC s[j] = true) ∧ wr = w) (fun i _ => s.size - (intOf i).toNat)
  case atStart => exact ⟨0, Nat.zero_le _, rfl, fun _ _ h => absurd h (by omega), rfl⟩
  case round =>
    obtain ⟨k, hk, rfl, hok, rfl⟩ := hrel
    by_cases hlt : k < s.size
    · have HMC := Lib.hid (show mailC s[k] = (decide (33 ≤ s[k].toNat) && decide (s[k].toNat ≤ 126) && !(decide (65 ≤ s[k].toNat) && decide (s[k].toNat ≤ 90))) from rfl)
      have HNO := Lib.hid (fun (h : mailC s[k] = false) => mail_not hlt h)
      by_cases h1 : s[k].toNat < 33
      · have e1 : decide (((s[k].toNat : Nat) : Int) < 33) = true := by simp; omega
        have HF := Lib.hid (HNO.out (by rw [HMC.out, decide_eq_false (show ¬ 33 ≤ s[k].toNat by omega)]; rfl))
        clear hok HNO HMC h1 HIX HCT
        go_wp2_with fail
        go_ret
        exact ⟨ret_bool HF.out.symm, rfl⟩
      have e1 : decide (((s[k].toNat : Nat) : Int) < 33) = false := by simp; omega
      by_cases h2 : 126 < s[k].toNat
      · have e2 : decide ((126 : Int) < ((s[k].toNat : Nat) : Int)) = true := by simp; omega
        have HF := Lib.hid (HNO.out (by rw [HMC.out, decide_eq_false (show ¬ s[k].toNat ≤ 126 by omega), Bool.and_false]; rfl))
        clear hok HNO HMC h1 h2 HIX HCT
        go_wp2_with fail
        go_ret
        exact ⟨ret_bool HF.out.symm, rfl⟩
      have e2 : decide ((126 : Int) < ((s[k].toNat : Nat) : Int)) = false := by simp; omega
      by_cases h3 : 65 ≤ s[k].toNat
      · have e3 : decide ((65 : Int) ≤ ((s[k].toNat : Nat) : Int)) = true := by simp; omega
        by_cases h4 : s[k].toNat ≤ 90
        · have e4 : decide (((s[k].toNat : Nat) : Int) ≤ 90) = true := by simp; omega
          have HF := Lib.hid (HNO.out (by rw [HMC.out, decide_eq_true h3, decide_eq_true h4]; simp))
          clear hok HNO HMC h1 h2 h3 h4 HIX HCT
          go_wp2_with fail
          go_ret
          exact ⟨ret_bool HF.out.symm, rfl⟩
        · have e4 : decide (((s[k].toNat : Nat) : Int) ≤ 90) = false := by simp; omega
          have HN := Lib.hid (show ∀ (j : Nat) (hj : j < s.size), j < k + 1 → mailC s[j] = true from fun j hj hjk => by
            by_cases e : j = k
            · subst e; rw [HMC.out, decide_eq_true (show 33 ≤ s[j].toNat by omega), decide_eq_true (show s[j].toNat ≤ 126 by omega), decide_eq_false h4]; simp
            · exact hok j hj (by omega))
          clear hok HNO HMC h1 h2 h3 h4 HIX HCT
          go_wp2_with fail
          go_roundw
          case rel => exact ⟨k + 1, by omega, by go_num, HN.out, by first | rfl | trivial⟩
          case measure => simp [intOf]; omega
      · have e3 : decide ((65 : Int) ≤ ((s[k].toNat : Nat) : Int)) = false := by simp; omega
        have HN := Lib.hid (show ∀ (j : Nat) (hj : j < s.size), j < k + 1 → mailC s[j] = true from fun j hj hjk => by
          by_cases e : j = k
          · subst e; rw [HMC.out, decide_eq_true (show 33 ≤ s[j].toNat by omega), decide_eq_true (show s[j].toNat ≤ 126 by omega), decide_eq_false h3]; simp
          · exact hok j hj (by omega))
        clear hok HNO HMC h1 h2 h3 HIX HCT
        go_wp2_with fail
        go_roundw
        case rel => exact ⟨k + 1, by omega, by go_num, HN.out, by first | rfl | trivial⟩
        case measure => simp [intOf]; omega
    · have hd : decide ((k : Int) < (s.size : Int)) = false := by simp; omega
      have hB := mailB_of (mail_all fun j hj => hok j hj (by omega))
      obtain ⟨ix, hix⟩ : ∃ z, z = Lib.indexByte s.data.toList 64 := ⟨_, rfl⟩
      obtain ⟨ct, hct⟩ : ∃ z, z = Lib.countByte s.data.toList 64 := ⟨_, rfl⟩
      rw [← hix, ← hct] at hB
      rw [← hix] at HIX
      rw [← hct] at HCT
      clear hok hix hct
      by_cases h1 : 3 ≤ s.size
      case neg =>
        have e1 : decide ((3 : Int) ≤ (s.size : Int)) = false := by simp; omega
        have HF := Lib.hid (show mailB s = false from by rw [hB, decide_eq_false h1]; rfl)
        clear hB h1
        go_wp2_with fail
        refine (HIX.out _).mono ?_
        rintro e w2 ⟨rfl, hh⟩
        subst hh
        go_wp2_with fail
        go_ret
        exact ⟨ret_bool HF.out.symm, rfl⟩
      have e1 : decide ((3 : Int) ≤ (s.size : Int)) = true := by simp; omega
      by_cases h2 : s.size ≤ 80
      case neg =>
        have e2 : decide ((s.size : Int) ≤ 80) = false := by simp; omega
        have HF := Lib.hid (show mailB s = false from by rw [hB, decide_eq_false h2, Bool.and_false]; rfl)
        clear hB h2
        go_wp2_with fail
        refine (HIX.out _).mono ?_
        rintro e w2 ⟨rfl, hh⟩
        subst hh
        go_wp2_with fail
        go_ret
        exact ⟨ret_bool HF.out.symm, rfl⟩
      have e2 : decide ((s.size : Int) ≤ 80) = true := by simp; omega
      by_cases h3 : 0 < ix
      case neg =>
        have e3 : decide ((0 : Int) < ix) = false := by simpa using h3
        have HF := Lib.hid (show mailB s = false from by rw [hB, decide_eq_false h3, Bool.false_and, Bool.and_false]; rfl)
        clear hB h3
        go_wp2_with fail
        refine (HIX.out _).mono ?_
        rintro e w2 ⟨rfl, hh⟩
        subst hh
        go_wp2_with fail
        go_ret
        exact ⟨ret_bool HF.out.symm, rfl⟩
      have e3 : decide ((0 : Int) < ix) = true := by simpa using h3
      by_cases h4 : ix < (s.size : Int) - 1
      case neg =>
        have e4 : decide (ix < (s.size : Int) - 1) = false := by simpa using h4
        have HF := Lib.hid (show mailB s = false from by rw [hB, decide_eq_false h4, Bool.and_false, Bool.and_false]; rfl)
        clear hB
        go_wp2_with fail
        refine (HIX.out _).mono ?_
        rintro e w2 ⟨rfl, hh⟩
        subst hh
        go_wp2_with fail
        go_ret
        exact ⟨ret_bool HF.out.symm, rfl⟩
      have e4 : decide (ix < (s.size : Int) - 1) = true := by simpa using h4
      have hB2 : mailB s = decide (ct = 1) := by rw [hB, decide_eq_true h1, decide_eq_true h2, decide_eq_true h3, decide_eq_true h4]; simp
      have HF := Lib.hid hB2
      have e5 : ((ct : Int) == 1) = decide (ct = 1) := by
        by_cases h : ct = 1
        · subst h; rfl
        · rw [decide_eq_false h, beq_eq_false_iff_ne]; omega
      obtain ⟨bz, hbz⟩ : ∃ z, z = decide (ct = 1) := ⟨_, rfl⟩
      rw [← hbz] at e5 HF
      clear hB hB2 hbz
      go_wp2_with fail
      refine (HIX.out _).mono ?_
      rintro e w2 ⟨rfl, hh⟩
      subst hh
      go_wp2_with fail
      refine (HCT.out _).mono ?_
      rintro e w3 ⟨rfl, hh⟩
      subst hh
      go_wp2_with fail
      go_ret
      exact ⟨ret_bool HF.out.symm, rfl⟩
end Go.Proofs.YtgobnlgmbplggaaGreatDoor
