/- Level of a pair for somebody: book.level, LevelOf. -/
import Derived.Test.YtjbaijgdkkccbaaGreatDoorL1
import Derived.Test.YtjbaijgdkkccbaaGreatDoorRs
import Derived.Test.YtjbaijgdkkccbaaGreatDoorAo
import Derived.Test.YtjbaijgdkkccbaaGreatDoorBr
import Derived.Test.YtjbaijgdkkccbaaGreatDoorAw
import Derived.Test.YtjbaijgdkkccbaaGreatDoorZo
import Derived.Test.YtjbaijgdkkccbaaGreatDoorBo
namespace Go.Proofs.YtjbaijgdkkccbaaGreatDoor
open Go.RowKit

def lvB (ab rb bb eb cb db : Bool) : Int := if ab = true then (if rb = true then 1 else 0) else if bb = true then 0 else if (eb || cb) = true then 3 else if db = true then 2 else 0
theorem lvB_1 {ab rb bb eb cb db : Bool} (h : (ab && rb) = true) : lvB ab rb bb eb cb db = 1 := by revert h; cases ab <;> cases rb <;> simp [lvB]
theorem lvB_0 {ab rb bb eb cb db : Bool} (h : (ab && rb) = false) (h2 : (ab || bb) = true) : lvB ab rb bb eb cb db = 0 := by revert h h2; cases ab <;> cases rb <;> cases bb <;> simp [lvB]
theorem lvB_3 {ab rb bb eb cb db : Bool} (h2 : (ab || bb) = false) (h : (eb || cb) = true) : lvB ab rb bb eb cb db = 3 := by revert h h2; cases ab <;> cases bb <;> cases eb <;> cases cb <;> simp [lvB]
theorem lvB_2 {ab rb bb eb cb db : Bool} (h2 : (ab || bb) = false) (h : (eb || cb) = false) (h3 : db = true) : lvB ab rb bb eb cb db = 2 := by subst h3; revert h h2; cases ab <;> cases bb <;> cases eb <;> cases cb <;> simp [lvB]
theorem lvB_z {ab rb bb eb cb db : Bool} (h2 : (ab || bb) = false) (h : (eb || cb) = false) (h3 : db = false) : lvB ab rb bb eb cb db = 0 := by subst h3; revert h h2; cases ab <;> cases bb <;> cases eb <;> cases cb <;> simp [lvB]
theorem levelF_b (s : Set7) (ts : List Raw) (who : ByteArray) (p : Pair2) (tm : Int) : levelF s ts who p tm = lvB (authB s.papers p.paper who) (decide (s.reply ≤ tm)) (inP s.barred p.paper who) (who.toList == p.person.toList) (memB who s.chairs) (lastO ts (p.paper, who) tm true).isSome := by
  unfold levelF lvB
  by_cases h1 : authB s.papers p.paper who = true
  · rw [if_pos h1, if_pos h1]; simp
  · rw [if_neg h1, if_neg h1]
    by_cases h2 : inP s.barred p.paper who = true
    · rw [if_pos h2, if_pos h2]
    · rw [if_neg h2, if_neg h2]
      by_cases h3 : who = p.person
      · subst h3; simp
      · have h4 := bytes_ne h3
        simp [h3, h4]
set_option maxRecDepth 100000 in
set_option maxHeartbeats 12800000 in
theorem level_any (a0 : Option Addr) (l0 c0 : Nat) (a1 : Option Addr) (l1 c1 : Nat) (a2 : Option Addr) (l2 c2 : Nat) (a3 : Option Addr) (l3 c3 : Nat) (a4 : Option Addr) (l4 c4 : Nat) (s : Set7) (ts : List Raw) (hts : ts.length ≤ 1000000) (who : ByteArray) (hwho : who.size ≤ 1000000) (p : Pair2) (tm : Int) (kb : Nat) (w : World) (hbk : BookIs w kb #[.slice a0 l0 c0, .slice a1 l1 c1, .slice a2 l2 c2, .slice a3 l3 c3, .slice a4 l4 c4, .int .i64 s.due, .int .i64 s.reply] ts) (his : SetIs (fun _ => True) w a0 l0 a1 l1 a2 l2 a3 l3 a4 l4 s) (hgood : setupF s = 0) (hin : ∀ z ∈ ts, inP s.pairs z.1.paper z.1.person = true) :
    Calls Tryz.prog 61 #[.pointer (some ⟨kb, 0, none⟩), .string who, .agg #[.string p.paper, .string p.person], .int .i64 tm] w fun e w' => e = .returned (.int .i64 (levelF s ts who p tm)) ∧ All w w' := by
  have hk1 : All w ((w.alloc (.cells #[.string p.paper, .string p.person] 39)).alloc (.cells #[.string p.paper, .string who] 39)) := (Kept.alloc _ _ _).then_alloc _
  have hb1 := heap_old (.cells #[.string p.paper, .string who] 39) (heap_at w (.cells #[.string p.paper, .string p.person] 39) _ rfl)
  have hb2 := heap_at (w.alloc (.cells #[.string p.paper, .string p.person] 39)) (.cells #[.string p.paper, .string who] 39) (w.heap.size + 1) (by simp)
  obtain ⟨pb, hpb⟩ : ∃ b, b = w.heap.size := ⟨_, rfl⟩
  obtain ⟨ob, hob⟩ : ∃ b, b = w.heap.size + 1 := ⟨_, rfl⟩
  have HPB := Lib.hid hpb
  have HOB := Lib.hid hob
  have HOP := Lib.hid (show ob = pb + 1 by omega)
  rw [← hpb] at hb1
  rw [← hob] at hb2
  obtain ⟨hr1, -, hr2, hr3⟩ := setupF_rises hgood
  have HR1 := Lib.hid hr1
  have HR2 := Lib.hid hr2
  have HR3 := Lib.hid hr3
  have hn1 := his.n1
  have hn2 := his.n2
  have hn3 := his.n3
  have hn4 := his.n4
  obtain ⟨mb, B, n, vals, hkb, hrow⟩ := hbk
  have HCC := Lib.hid (fun (wx : World) (k : All ((w.alloc (.cells #[.string p.paper, .string p.person] 39)).alloc (.cells #[.string p.paper, .string who] 39)) wx) => (⟨k.heap hb1 trivial, k.heap hb2 trivial, (hk1.trans k).heap hkb trivial⟩ : wx.heap[pb]? = _ ∧ wx.heap[ob]? = _ ∧ wx.heap[kb]? = some (.cells #[.slice a0 l0 c0, .slice a1 l1 c1, .slice a2 l2 c2, .slice a3 l3 c3, .slice a4 l4 c4, .int .i64 s.due, .int .i64 s.reply, .map (some mb)] 105 (0, 0))))
  have HIS := Lib.hid (fun (wx : World) (k : All ((w.alloc (.cells #[.string p.paper, .string p.person] 39)).alloc (.cells #[.string p.paper, .string who] 39)) wx) => his.keep (hk1.trans k))
  have HBK := Lib.hid (fun (wx : World) (k : All ((w.alloc (.cells #[.string p.paper, .string p.person] 39)).alloc (.cells #[.string p.paper, .string who] 39)) wx) => (⟨mb, B, n, vals, (hk1.trans k).heap hkb trivial, hrow.keep flatRaw (hk1.trans k)⟩ : BookIs wx kb #[.slice a0 l0 c0, .slice a1 l1 c1, .slice a2 l2 c2, .slice a3 l3 c3, .slice a4 l4 c4, .int .i64 s.due, .int .i64 s.reply] ts))
  obtain ⟨lo, hlo⟩ : ∃ z, z = lastO ts (p.paper, who) tm true := ⟨_, rfl⟩
  have HLO := Lib.hid hlo
  have HDB := Lib.hid (show lo.isSome = true → inP s.pairs p.paper who = true from fun h => by
    obtain ⟨z, hz, -, -⟩ := lastO_isSome.1 (by rw [← hlo]; exact h)
    have h1 := hin z (mem_bookF hz)
    have h2 := of_decide_eq_true (List.mem_filter.1 hz).2
    injection h2 with h3 h4
    rw [h3, h4] at h1
    exact h1)
  rw [levelF_b, ← hlo]
  obtain ⟨ab, hab⟩ : ∃ z, z = authB s.papers p.paper who := ⟨_, rfl⟩
  have HAB := Lib.hid hab
  rw [← hab]
  clear hab
  obtain ⟨rb, hrb⟩ : ∃ z, z = decide (s.reply ≤ tm) := ⟨_, rfl⟩
  have HRB := Lib.hid hrb
  rw [← hrb]
  clear hrb
  obtain ⟨bb, hbb⟩ : ∃ z, z = inP s.barred p.paper who := ⟨_, rfl⟩
  have HBB := Lib.hid hbb
  rw [← hbb]
  clear hbb
  obtain ⟨eb, heb⟩ : ∃ z, z = (who.toList == p.person.toList) := ⟨_, rfl⟩
  have HEB := Lib.hid heb
  rw [← heb]
  clear heb
  obtain ⟨cb, hcb⟩ : ∃ z, z = memB who s.chairs := ⟨_, rfl⟩
  have HCB := Lib.hid hcb
  rw [← hcb]
  clear hcb
  obtain ⟨lv, hlv⟩ : ∃ z, z = lvB ab rb bb eb cb lo.isSome := ⟨_, rfl⟩
  have HLV := Lib.hid hlv
  rw [← hlv]
  clear hlv
  have HK1 := Lib.hid hk1
  obtain ⟨t1, t2, t3⟩ := HCC.out _ (Kept.refl _ _)
  have e0 := cell_at (i := 0) t1 rfl
  have e1 := cell_at (i := 1) t1 rfl
  clear t1 t2 t3 hlo hpb hob hb1 hb2 hr1 hr2 hr3 hkb hrow hk1 his hgood hin
  go_enter Tryz.func61, Tryz.ntmps61
  go_upto_region 2 with fail
  simp only [← HPB.out, ← HOP.out]
  generalize (w.alloc (.cells #[.string p.paper, .string p.person] 39)).alloc (.cells #[.string p.paper, .string who] 39) = w1 at *
  clear e0 e1
  refine wp_region_guard 17 8 25 true (by kernel_rfl) (by kernel_rfl) (by kernel_rfl) (fun _ wx => All w1 wx)
    (DL [QIs (.pointer (some ⟨kb, 0, none⟩)), QIs (.pointer (some ⟨kb, 0, none⟩)), QIs (.pointer (some ⟨kb, 0, none⟩)), QIs (.agg #[.slice a0 l0 c0, .slice a1 l1 c1, .slice a2 l2 c2, .slice a3 l3 c3, .slice a4 l4 c4, .int .i64 s.due, .int .i64 s.reply]), QIs (.pointer (some ⟨pb, 0, none⟩)), QIs (.string p.paper), QIs (.string who), QIs (.bool ab), QIs (.bool ab), QIs (.int .i64 tm), QIs (.pointer (some ⟨kb, 0, none⟩)), QIs (.pointer (some ⟨kb, 0, none⟩)), QIs (.pointer (some ⟨kb, 0, none⟩)), QIs (.pointer (some ⟨kb, 6, none⟩)), QIs (.int .i64 s.reply), QIs (.bool rb), QIs (.bool (ab && rb))]) All (fun _ => Kept.refl _ _)
    (DL.keep (by simp only [List.forall_mem_cons, List.not_mem_nil, false_implies, implies_true, and_true]; exact ⟨QIs.stays _, QIs.stays _, QIs.stays _, QIs.stays _, QIs.stays _, QIs.stays _, QIs.stays _, QIs.stays _, QIs.stays _, QIs.stays _, QIs.stays _, QIs.stays _, QIs.stays _, QIs.stays _, QIs.stays _, QIs.stays _, QIs.stays _⟩)) (Kept.drew _ _) (fun _ _ h => h) (fun v _ h => ⟨_, h⟩) ?_ ?_
  · intro i o t ho hd hi k' a' wx hk' hg hdf hts hoth hgu hdeps
    obtain ⟨t1, t2, t3⟩ := HCC.out wx hg
    have p0 := cell_at (i := 0) t1 rfl
    have p1 := cell_at (i := 1) t1 rfl
    have o0 := cell_at (i := 0) t2 rfl
    have o1 := cell_at (i := 1) t2 rfl
    have k0 := cell_at (i := 0) t3 rfl
    have k1 := cell_at (i := 1) t3 rfl
    have k2 := cell_at (i := 2) t3 rfl
    have k3 := cell_at (i := 3) t3 rfl
    have k4 := cell_at (i := 4) t3 rfl
    have k5 := cell_at (i := 5) t3 rfl
    have k6 := cell_at (i := 6) t3 rfl
    clear t1 t2 t3
    have hz : i = 0 ∨ i = 1 ∨ i = 2 ∨ i = 3 ∨ i = 4 ∨ i = 5 ∨ i = 6 ∨ i = 7 ∨ i = 8 ∨ i = 9 ∨ i = 10 ∨ i = 11 ∨ i = 12 ∨ i = 13 ∨ i = 14 ∨ i = 15 ∨ i = 16 := by omega
    rcases hz with rfl | rfl | rfl | rfl | rfl | rfl | rfl | rfl | rfl | rfl | rfl | rfl | rfl | rfl | rfl | rfl | rfl
    · obtain rfl := Option.some.inj ho
      obtain rfl := Option.some.inj hd
      have e0 : a'.tmps.getD 0 undef = .pointer (some ⟨kb, 0, none⟩) := tmp_of ((hoth 0 (by decide)).trans rfl)
      clear hoth hdeps hdf hts ho hgu
      refine wp_via (fun K' hK => ?_)
      have HK := Lib.hid hK
      clear hK
      go_simp
      exact HK.out _ _ ⟨_, rfl, hg, Kept.refl _ _, rfl⟩
    · obtain rfl := Option.some.inj ho
      obtain rfl := Option.some.inj hd
      have e0 : a'.tmps.getD 17 undef = .pointer (some ⟨kb, 0, none⟩) := hdeps 0 (by decide) 17 rfl (fun h => by cases h)
      clear hoth hdeps hdf hts ho hgu
      refine wp_via (fun K' hK => ?_)
      have HK := Lib.hid hK
      clear hK
      go_simp
      exact HK.out _ _ ⟨_, rfl, hg, Kept.refl _ _, rfl⟩
    · obtain rfl := Option.some.inj ho
      obtain rfl := Option.some.inj hd
      have e0 : a'.tmps.getD 18 undef = .pointer (some ⟨kb, 0, none⟩) := hdeps 1 (by decide) 18 rfl (fun h => by cases h)
      clear hoth hdeps hdf hts ho hgu
      refine wp_via (fun K' hK => ?_)
      have HK := Lib.hid hK
      clear hK
      go_simp
      exact HK.out _ _ ⟨_, rfl, hg, Kept.refl _ _, rfl⟩
    · obtain rfl := Option.some.inj ho
      obtain rfl := Option.some.inj hd
      have e0 : a'.tmps.getD 19 undef = .pointer (some ⟨kb, 0, none⟩) := hdeps 2 (by decide) 19 rfl (fun h => by cases h)
      clear hoth hdeps hdf hts ho hgu
      refine wp_via (fun K' hK => ?_)
      have HK := Lib.hid hK
      clear hK
      go_simp
      exact HK.out _ _ ⟨_, rfl, hg, Kept.refl _ _, rfl⟩
    · obtain rfl := Option.some.inj ho
      obtain rfl := Option.some.inj hd
      have e0 : a'.tmps.getD 6 undef = .pointer (some ⟨pb, 0, none⟩) := tmp_of ((hoth 6 (by decide)).trans rfl)
      clear hoth hdeps hdf hts ho hgu
      refine wp_via (fun K' hK => ?_)
      have HK := Lib.hid hK
      clear hK
      go_simp
      exact HK.out _ _ ⟨_, rfl, hg, Kept.refl _ _, rfl⟩
    · obtain rfl := Option.some.inj ho
      obtain rfl := Option.some.inj hd
      have e0 : a'.tmps.getD 21 undef = .pointer (some ⟨pb, 0, none⟩) := hdeps 4 (by decide) 21 rfl (fun h => by cases h)
      clear hoth hdeps hdf hts ho hgu
      refine wp_via (fun K' hK => ?_)
      have HK := Lib.hid hK
      clear hK
      go_simp
      exact HK.out _ _ ⟨_, rfl, hg, Kept.refl _ _, rfl⟩
    · obtain rfl := Option.some.inj ho
      obtain rfl := Option.some.inj hd
      have e0 : a'.tmps.getD 1 undef = .string who := tmp_of ((hoth 1 (by decide)).trans rfl)
      clear hoth hdeps hdf hts ho hgu
      refine wp_via (fun K' hK => ?_)
      have HK := Lib.hid hK
      clear hK
      go_simp
      exact HK.out _ _ ⟨_, rfl, hg, Kept.refl _ _, rfl⟩
    · obtain rfl := Option.some.inj ho
      obtain rfl := Option.some.inj hd
      have e0 : a'.tmps.getD 20 undef = .agg #[.slice a0 l0 c0, .slice a1 l1 c1, .slice a2 l2 c2, .slice a3 l3 c3, .slice a4 l4 c4, .int .i64 s.due, .int .i64 s.reply] := hdeps 3 (by decide) 20 rfl (fun h => by cases h)
      have e1 : a'.tmps.getD 22 undef = .string p.paper := hdeps 5 (by decide) 22 rfl (fun h => by cases h)
      have e2 : a'.tmps.getD 23 undef = .string who := hdeps 6 (by decide) 23 rfl (fun h => by cases h)
      clear hoth hdeps hdf hts ho hgu
      refine wp_via (fun K' hK => ?_)
      have HK := Lib.hid hK
      clear hK
      go_simp
      refine (isAuthor_any a0 l0 c0 a1 l1 c1 a2 l2 c2 a3 l3 c3 a4 l4 c4 s.due s.reply s.papers p.paper who _ (HIS.out _ hg).papers (by omega) HR1.out).mono ?_
      rintro e w2x ⟨rfl, hk2x⟩
      exact HK.out _ _ ⟨_, rfl, hg.trans hk2x, hk2x, by rw [HAB.out]; rfl⟩
    · obtain rfl := Option.some.inj ho
      obtain rfl := Option.some.inj hd
      have e0 : a'.tmps.getD 24 undef = .bool ab := hdeps 7 (by decide) 24 rfl (fun h => by cases h)
      clear hoth hdeps hdf hts ho hgu
      refine wp_via (fun K' hK => ?_)
      have HK := Lib.hid hK
      clear hK
      go_simp
      exact HK.out _ _ ⟨_, rfl, hg, Kept.refl _ _, rfl⟩
    · obtain rfl := Option.some.inj ho
      obtain rfl := Option.some.inj hd
      have e0 : a'.tmps.getD 3 undef = .int .i64 tm := tmp_of ((hoth 3 (by decide)).trans rfl)
      clear hoth hdeps hdf hts ho hgu
      refine wp_via (fun K' hK => ?_)
      have HK := Lib.hid hK
      clear hK
      go_simp
      exact HK.out _ _ ⟨_, rfl, hg, Kept.refl _ _, rfl⟩
    · obtain rfl := Option.some.inj ho
      obtain rfl := Option.some.inj hd
      have e0 : a'.tmps.getD 0 undef = .pointer (some ⟨kb, 0, none⟩) := tmp_of ((hoth 0 (by decide)).trans rfl)
      clear hoth hdeps hdf hts ho hgu
      refine wp_via (fun K' hK => ?_)
      have HK := Lib.hid hK
      clear hK
      go_simp
      exact HK.out _ _ ⟨_, rfl, hg, Kept.refl _ _, rfl⟩
    · obtain rfl := Option.some.inj ho
      obtain rfl := Option.some.inj hd
      have e0 : a'.tmps.getD 27 undef = .pointer (some ⟨kb, 0, none⟩) := hdeps 10 (by decide) 27 rfl (fun _ => hgu rfl)
      clear hoth hdeps hdf hts ho hgu
      refine wp_via (fun K' hK => ?_)
      have HK := Lib.hid hK
      clear hK
      go_simp
      exact HK.out _ _ ⟨_, rfl, hg, Kept.refl _ _, rfl⟩
    · obtain rfl := Option.some.inj ho
      obtain rfl := Option.some.inj hd
      have e0 : a'.tmps.getD 28 undef = .pointer (some ⟨kb, 0, none⟩) := hdeps 11 (by decide) 28 rfl (fun _ => hgu rfl)
      clear hoth hdeps hdf hts ho hgu
      refine wp_via (fun K' hK => ?_)
      have HK := Lib.hid hK
      clear hK
      go_simp
      exact HK.out _ _ ⟨_, rfl, hg, Kept.refl _ _, rfl⟩
    · obtain rfl := Option.some.inj ho
      obtain rfl := Option.some.inj hd
      have e0 : a'.tmps.getD 29 undef = .pointer (some ⟨kb, 0, none⟩) := hdeps 12 (by decide) 29 rfl (fun _ => hgu rfl)
      clear hoth hdeps hdf hts ho hgu
      refine wp_via (fun K' hK => ?_)
      have HK := Lib.hid hK
      clear hK
      go_simp
      exact HK.out _ _ ⟨_, rfl, hg, Kept.refl _ _, rfl⟩
    · obtain rfl := Option.some.inj ho
      obtain rfl := Option.some.inj hd
      have e0 : a'.tmps.getD 30 undef = .pointer (some ⟨kb, 6, none⟩) := hdeps 13 (by decide) 30 rfl (fun _ => hgu rfl)
      clear hoth hdeps hdf hts ho hgu
      refine wp_via (fun K' hK => ?_)
      have HK := Lib.hid hK
      clear hK
      go_simp
      exact HK.out _ _ ⟨_, rfl, hg, Kept.refl _ _, rfl⟩
    · obtain rfl := Option.some.inj ho
      obtain rfl := Option.some.inj hd
      have e0 : a'.tmps.getD 26 undef = .int .i64 tm := hdeps 9 (by decide) 26 rfl (fun _ => hgu rfl)
      have e1 : a'.tmps.getD 31 undef = .int .i64 s.reply := hdeps 14 (by decide) 31 rfl (fun _ => hgu rfl)
      clear hoth hdeps hdf hts ho hgu
      refine wp_via (fun K' hK => ?_)
      have HK := Lib.hid hK
      clear hK
      go_simp
      exact HK.out _ _ ⟨_, rfl, hg, Kept.refl _ _, by rw [HRB.out]; rfl⟩
    · obtain rfl := Option.some.inj ho
      obtain rfl := Option.some.inj hd
      cases ab with
      | false =>
        have e0 : a'.tmps.getD 25 undef = .bool false := hdeps 8 (by decide) 25 rfl (fun h => by cases h)
        clear hoth hdeps hdf hts ho
        refine wp_via (fun K' hK => ?_)
        have HK := Lib.hid hK
        clear hK
        go_simp
        exact HK.out _ _ ⟨_, rfl, hg, Kept.refl _ _, rfl⟩
      | true =>
        have e0 : a'.tmps.getD 25 undef = .bool true := hdeps 8 (by decide) 25 rfl (fun h => by cases h)
        have e1 : a'.tmps.getD 32 undef = .bool rb := hdeps 15 (by decide) 32 rfl (fun _ => e0)
        clear hoth hdeps hdf hts ho
        refine wp_via (fun K' hK => ?_)
        have HK := Lib.hid hK
        clear hK
        go_simp
        exact HK.out _ _ ⟨_, rfl, hg, Kept.refl _ _, rfl⟩
  · intro wx f hg hd
    have e33f : f 33 = .bool (ab && rb) := hd 16 33 (by decide) rfl (fun h => by cases h)
    refine ⟨?_⟩
    rw [show dsts _ 17 = [17, 18, 19, 20, 21, 22, 23, 24, 25, 26, 27, 28, 29, 30, 31, 32, 33] from by kernel_rfl]
    simp only [List.map_cons, List.map_nil, puts, Act.put, e33f, List.drop_succ_cons, List.drop_zero]
    generalize f 17 = f17
    generalize f 18 = f18
    generalize f 19 = f19
    generalize f 20 = f20
    generalize f 21 = f21
    generalize f 22 = f22
    generalize f 23 = f23
    generalize f 24 = f24
    generalize f 25 = f25
    generalize f 26 = f26
    generalize f 27 = f27
    generalize f 28 = f28
    generalize f 29 = f29
    generalize f 30 = f30
    generalize f 31 = f31
    generalize f 32 = f32
    clear hd e33f f
    simp only [List.setIfInBounds_toArray, List.set_cons_zero, List.set_cons_succ]
    have hk2 := hg
    clear hg
    obtain ⟨w2, rfl⟩ : ∃ q : World, q = wx := ⟨_, rfl⟩
    obtain ⟨x1, hx1⟩ : ∃ z, z = (ab && rb) := ⟨_, rfl⟩
    have HX1 := Lib.hid hx1
    rw [← hx1]
    clear hx1
    cases x1 with
    | true =>
      go_wp2_with fail
      go_ret
      exact ⟨by rw [HLV.out, lvB_1 HX1.out.symm]; rfl, HK1.out.trans hk2⟩
    | false =>
      go_upto_region 4 with fail
      refine wp_region_guard 17 8 43 false (by kernel_rfl) (by kernel_rfl) (by kernel_rfl) (fun _ wx => All w2 wx)
        (DL [QIs (.pointer (some ⟨kb, 0, none⟩)), QIs (.pointer (some ⟨kb, 0, none⟩)), QIs (.pointer (some ⟨kb, 0, none⟩)), QIs (.agg #[.slice a0 l0 c0, .slice a1 l1 c1, .slice a2 l2 c2, .slice a3 l3 c3, .slice a4 l4 c4, .int .i64 s.due, .int .i64 s.reply]), QIs (.pointer (some ⟨pb, 0, none⟩)), QIs (.string p.paper), QIs (.string who), QIs (.bool ab), QIs (.bool ab), QIs (.pointer (some ⟨kb, 0, none⟩)), QIs (.pointer (some ⟨kb, 0, none⟩)), QIs (.pointer (some ⟨kb, 0, none⟩)), QIs (.pointer (some ⟨kb, 3, none⟩)), QIs (.slice a3 l3 c3), QIs (.agg #[.string p.paper, .string who]), QIs (.bool bb), QIs (.bool (ab || bb))]) All (fun _ => Kept.refl _ _)
        (DL.keep (by simp only [List.forall_mem_cons, List.not_mem_nil, false_implies, implies_true, and_true]; exact ⟨QIs.stays _, QIs.stays _, QIs.stays _, QIs.stays _, QIs.stays _, QIs.stays _, QIs.stays _, QIs.stays _, QIs.stays _, QIs.stays _, QIs.stays _, QIs.stays _, QIs.stays _, QIs.stays _, QIs.stays _, QIs.stays _, QIs.stays _⟩)) (Kept.drew _ _) (fun _ _ h => h) (fun v _ h => ⟨_, h⟩) ?_ ?_
      · intro i o t ho hd hi k' a' wx hk' hg hdf hts hoth hgu hdeps
        obtain ⟨t1, t2, t3⟩ := HCC.out wx (hk2.trans hg)
        have p0 := cell_at (i := 0) t1 rfl
        have p1 := cell_at (i := 1) t1 rfl
        have o0 := cell_at (i := 0) t2 rfl
        have o1 := cell_at (i := 1) t2 rfl
        have k0 := cell_at (i := 0) t3 rfl
        have k1 := cell_at (i := 1) t3 rfl
        have k2 := cell_at (i := 2) t3 rfl
        have k3 := cell_at (i := 3) t3 rfl
        have k4 := cell_at (i := 4) t3 rfl
        have k5 := cell_at (i := 5) t3 rfl
        have k6 := cell_at (i := 6) t3 rfl
        clear t1 t2 t3
        have hz : i = 0 ∨ i = 1 ∨ i = 2 ∨ i = 3 ∨ i = 4 ∨ i = 5 ∨ i = 6 ∨ i = 7 ∨ i = 8 ∨ i = 9 ∨ i = 10 ∨ i = 11 ∨ i = 12 ∨ i = 13 ∨ i = 14 ∨ i = 15 ∨ i = 16 := by omega
        rcases hz with rfl | rfl | rfl | rfl | rfl | rfl | rfl | rfl | rfl | rfl | rfl | rfl | rfl | rfl | rfl | rfl | rfl
        · obtain rfl := Option.some.inj ho
          obtain rfl := Option.some.inj hd
          have e0 : a'.tmps.getD 0 undef = .pointer (some ⟨kb, 0, none⟩) := tmp_of ((hoth 0 (by decide)).trans rfl)
          clear hoth hdeps hdf hts ho hgu
          refine wp_via (fun K' hK => ?_)
          have HK := Lib.hid hK
          clear hK
          go_simp
          exact HK.out _ _ ⟨_, rfl, hg, Kept.refl _ _, rfl⟩
        · obtain rfl := Option.some.inj ho
          obtain rfl := Option.some.inj hd
          have e0 : a'.tmps.getD 35 undef = .pointer (some ⟨kb, 0, none⟩) := hdeps 0 (by decide) 35 rfl (fun h => by cases h)
          clear hoth hdeps hdf hts ho hgu
          refine wp_via (fun K' hK => ?_)
          have HK := Lib.hid hK
          clear hK
          go_simp
          exact HK.out _ _ ⟨_, rfl, hg, Kept.refl _ _, rfl⟩
        · obtain rfl := Option.some.inj ho
          obtain rfl := Option.some.inj hd
          have e0 : a'.tmps.getD 36 undef = .pointer (some ⟨kb, 0, none⟩) := hdeps 1 (by decide) 36 rfl (fun h => by cases h)
          clear hoth hdeps hdf hts ho hgu
          refine wp_via (fun K' hK => ?_)
          have HK := Lib.hid hK
          clear hK
          go_simp
          exact HK.out _ _ ⟨_, rfl, hg, Kept.refl _ _, rfl⟩
        · obtain rfl := Option.some.inj ho
          obtain rfl := Option.some.inj hd
          have e0 : a'.tmps.getD 37 undef = .pointer (some ⟨kb, 0, none⟩) := hdeps 2 (by decide) 37 rfl (fun h => by cases h)
          clear hoth hdeps hdf hts ho hgu
          refine wp_via (fun K' hK => ?_)
          have HK := Lib.hid hK
          clear hK
          go_simp
          exact HK.out _ _ ⟨_, rfl, hg, Kept.refl _ _, rfl⟩
        · obtain rfl := Option.some.inj ho
          obtain rfl := Option.some.inj hd
          have e0 : a'.tmps.getD 6 undef = .pointer (some ⟨pb, 0, none⟩) := tmp_of ((hoth 6 (by decide)).trans rfl)
          clear hoth hdeps hdf hts ho hgu
          refine wp_via (fun K' hK => ?_)
          have HK := Lib.hid hK
          clear hK
          go_simp
          exact HK.out _ _ ⟨_, rfl, hg, Kept.refl _ _, rfl⟩
        · obtain rfl := Option.some.inj ho
          obtain rfl := Option.some.inj hd
          have e0 : a'.tmps.getD 39 undef = .pointer (some ⟨pb, 0, none⟩) := hdeps 4 (by decide) 39 rfl (fun h => by cases h)
          clear hoth hdeps hdf hts ho hgu
          refine wp_via (fun K' hK => ?_)
          have HK := Lib.hid hK
          clear hK
          go_simp
          exact HK.out _ _ ⟨_, rfl, hg, Kept.refl _ _, rfl⟩
        · obtain rfl := Option.some.inj ho
          obtain rfl := Option.some.inj hd
          have e0 : a'.tmps.getD 1 undef = .string who := tmp_of ((hoth 1 (by decide)).trans rfl)
          clear hoth hdeps hdf hts ho hgu
          refine wp_via (fun K' hK => ?_)
          have HK := Lib.hid hK
          clear hK
          go_simp
          exact HK.out _ _ ⟨_, rfl, hg, Kept.refl _ _, rfl⟩
        · obtain rfl := Option.some.inj ho
          obtain rfl := Option.some.inj hd
          have e0 : a'.tmps.getD 38 undef = .agg #[.slice a0 l0 c0, .slice a1 l1 c1, .slice a2 l2 c2, .slice a3 l3 c3, .slice a4 l4 c4, .int .i64 s.due, .int .i64 s.reply] := hdeps 3 (by decide) 38 rfl (fun h => by cases h)
          have e1 : a'.tmps.getD 40 undef = .string p.paper := hdeps 5 (by decide) 40 rfl (fun h => by cases h)
          have e2 : a'.tmps.getD 41 undef = .string who := hdeps 6 (by decide) 41 rfl (fun h => by cases h)
          clear hoth hdeps hdf hts ho hgu
          refine wp_via (fun K' hK => ?_)
          have HK := Lib.hid hK
          clear hK
          go_simp
          refine (isAuthor_any a0 l0 c0 a1 l1 c1 a2 l2 c2 a3 l3 c3 a4 l4 c4 s.due s.reply s.papers p.paper who _ (HIS.out _ (hk2.trans hg)).papers (by omega) HR1.out).mono ?_
          rintro e w2x ⟨rfl, hk2x⟩
          exact HK.out _ _ ⟨_, rfl, hg.trans hk2x, hk2x, by rw [HAB.out]; rfl⟩
        · obtain rfl := Option.some.inj ho
          obtain rfl := Option.some.inj hd
          have e0 : a'.tmps.getD 42 undef = .bool ab := hdeps 7 (by decide) 42 rfl (fun h => by cases h)
          clear hoth hdeps hdf hts ho hgu
          refine wp_via (fun K' hK => ?_)
          have HK := Lib.hid hK
          clear hK
          go_simp
          exact HK.out _ _ ⟨_, rfl, hg, Kept.refl _ _, rfl⟩
        · obtain rfl := Option.some.inj ho
          obtain rfl := Option.some.inj hd
          have e0 : a'.tmps.getD 0 undef = .pointer (some ⟨kb, 0, none⟩) := tmp_of ((hoth 0 (by decide)).trans rfl)
          clear hoth hdeps hdf hts ho hgu
          refine wp_via (fun K' hK => ?_)
          have HK := Lib.hid hK
          clear hK
          go_simp
          exact HK.out _ _ ⟨_, rfl, hg, Kept.refl _ _, rfl⟩
        · obtain rfl := Option.some.inj ho
          obtain rfl := Option.some.inj hd
          have e0 : a'.tmps.getD 44 undef = .pointer (some ⟨kb, 0, none⟩) := hdeps 9 (by decide) 44 rfl (fun _ => hgu rfl)
          clear hoth hdeps hdf hts ho hgu
          refine wp_via (fun K' hK => ?_)
          have HK := Lib.hid hK
          clear hK
          go_simp
          exact HK.out _ _ ⟨_, rfl, hg, Kept.refl _ _, rfl⟩
        · obtain rfl := Option.some.inj ho
          obtain rfl := Option.some.inj hd
          have e0 : a'.tmps.getD 45 undef = .pointer (some ⟨kb, 0, none⟩) := hdeps 10 (by decide) 45 rfl (fun _ => hgu rfl)
          clear hoth hdeps hdf hts ho hgu
          refine wp_via (fun K' hK => ?_)
          have HK := Lib.hid hK
          clear hK
          go_simp
          exact HK.out _ _ ⟨_, rfl, hg, Kept.refl _ _, rfl⟩
        · obtain rfl := Option.some.inj ho
          obtain rfl := Option.some.inj hd
          have e0 : a'.tmps.getD 46 undef = .pointer (some ⟨kb, 0, none⟩) := hdeps 11 (by decide) 46 rfl (fun _ => hgu rfl)
          clear hoth hdeps hdf hts ho hgu
          refine wp_via (fun K' hK => ?_)
          have HK := Lib.hid hK
          clear hK
          go_simp
          exact HK.out _ _ ⟨_, rfl, hg, Kept.refl _ _, rfl⟩
        · obtain rfl := Option.some.inj ho
          obtain rfl := Option.some.inj hd
          have e0 : a'.tmps.getD 47 undef = .pointer (some ⟨kb, 3, none⟩) := hdeps 12 (by decide) 47 rfl (fun _ => hgu rfl)
          clear hoth hdeps hdf hts ho hgu
          refine wp_via (fun K' hK => ?_)
          have HK := Lib.hid hK
          clear hK
          go_simp
          exact HK.out _ _ ⟨_, rfl, hg, Kept.refl _ _, rfl⟩
        · obtain rfl := Option.some.inj ho
          obtain rfl := Option.some.inj hd
          have e0 : a'.tmps.getD 9 undef = .pointer (some ⟨ob, 0, none⟩) := tmp_of ((hoth 9 (by decide)).trans rfl)
          clear hoth hdeps hdf hts ho hgu
          refine wp_via (fun K' hK => ?_)
          have HK := Lib.hid hK
          clear hK
          go_simp
          exact HK.out _ _ ⟨_, rfl, hg, Kept.refl _ _, rfl⟩
        · obtain rfl := Option.some.inj ho
          obtain rfl := Option.some.inj hd
          have e0 : a'.tmps.getD 48 undef = .slice a3 l3 c3 := hdeps 13 (by decide) 48 rfl (fun _ => hgu rfl)
          have e1 : a'.tmps.getD 49 undef = .agg #[.string p.paper, .string who] := hdeps 14 (by decide) 49 rfl (fun _ => hgu rfl)
          clear hoth hdeps hdf hts ho hgu
          refine wp_via (fun K' hK => ?_)
          have HK := Lib.hid hK
          clear hK
          go_simp
          refine (isInR_any a3 l3 c3 s.barred ⟨p.paper, who, p.h1, hwho⟩ _ (HIS.out _ (hk2.trans hg)).barred (by omega) HR3.out).mono ?_
          rintro e w2x ⟨rfl, hk2x⟩
          exact HK.out _ _ ⟨_, rfl, hg.trans hk2x, hk2x, by rw [HBB.out]; rfl⟩
        · obtain rfl := Option.some.inj ho
          obtain rfl := Option.some.inj hd
          cases ab with
          | false =>
            have e0 : a'.tmps.getD 43 undef = .bool false := hdeps 8 (by decide) 43 rfl (fun h => by cases h)
            have e1 : a'.tmps.getD 50 undef = .bool bb := hdeps 15 (by decide) 50 rfl (fun _ => e0)
            clear hoth hdeps hdf hts ho
            refine wp_via (fun K' hK => ?_)
            have HK := Lib.hid hK
            clear hK
            go_simp
            exact HK.out _ _ ⟨_, rfl, hg, Kept.refl _ _, rfl⟩
          | true =>
            have e0 : a'.tmps.getD 43 undef = .bool true := hdeps 8 (by decide) 43 rfl (fun h => by cases h)
            clear hoth hdeps hdf hts ho
            refine wp_via (fun K' hK => ?_)
            have HK := Lib.hid hK
            clear hK
            go_simp
            exact HK.out _ _ ⟨_, rfl, hg, Kept.refl _ _, rfl⟩
      · intro wx f hg hd
        have e51f : f 51 = .bool (ab || bb) := hd 16 51 (by decide) rfl (fun h => by cases h)
        refine ⟨?_⟩
        rw [show dsts _ 17 = [35, 36, 37, 38, 39, 40, 41, 42, 43, 44, 45, 46, 47, 48, 49, 50, 51] from by kernel_rfl]
        simp only [List.map_cons, List.map_nil, puts, Act.put, e51f, List.drop_succ_cons, List.drop_zero]
        generalize f 35 = f35
        generalize f 36 = f36
        generalize f 37 = f37
        generalize f 38 = f38
        generalize f 39 = f39
        generalize f 40 = f40
        generalize f 41 = f41
        generalize f 42 = f42
        generalize f 43 = f43
        generalize f 44 = f44
        generalize f 45 = f45
        generalize f 46 = f46
        generalize f 47 = f47
        generalize f 48 = f48
        generalize f 49 = f49
        generalize f 50 = f50
        clear hd e51f f
        simp only [List.setIfInBounds_toArray, List.set_cons_zero, List.set_cons_succ]
        have hk3 := hk2.trans hg
        clear hg
        obtain ⟨w3, rfl⟩ : ∃ q : World, q = wx := ⟨_, rfl⟩
        obtain ⟨x2, hx2⟩ : ∃ z, z = (ab || bb) := ⟨_, rfl⟩
        have HX2 := Lib.hid hx2
        rw [← hx2]
        clear hx2
        cases x2 with
        | true =>
          go_wp2_with fail
          go_ret
          exact ⟨by rw [HLV.out, lvB_0 HX1.out.symm HX2.out.symm]; rfl, HK1.out.trans hk3⟩
        | false =>
          obtain ⟨t1, t2, t3⟩ := HCC.out w3 hk3
          have p0 := cell_at (i := 0) t1 rfl
          have p1 := cell_at (i := 1) t1 rfl
          have o0 := cell_at (i := 0) t2 rfl
          have o1 := cell_at (i := 1) t2 rfl
          have k4 := cell_at (i := 4) t3 rfl
          clear t1 t2 t3
          have heq := HEB.out.symm
          cases eb with
          | true =>
            go_wp2_with fail
            go_ret
            exact ⟨by rw [HLV.out, lvB_3 HX2.out.symm rfl]; rfl, HK1.out.trans hk3⟩
          | false =>
            go_wp2_with fail
            refine (contains_any a4 l4 c4 s.chairs who _ (HIS.out _ hk3).chairs (by omega)).mono ?_
            rintro e w' ⟨rfl, rfl⟩
            rw [← HCB.out]
            cases cb with
            | true =>
              go_wp2_with fail
              go_ret
              exact ⟨by rw [HLV.out, lvB_3 HX2.out.symm rfl]; rfl, HK1.out.trans hk3⟩
            | false =>
              go_wp2_with fail
              refine (last_any kb #[.slice a0 l0 c0, .slice a1 l1 c1, .slice a2 l2 c2, .slice a3 l3 c3, .slice a4 l4 c4, .int .i64 s.due, .int .i64 s.reply] rfl ts hts (p.paper, who) ⟨p.h1, hwho⟩ tm true _ (HBK.out _ hk3)).mono ?_
              rintro e w4 ⟨rfl, hw4⟩
              obtain ⟨⟨x, aa, ac⟩, hx⟩ : ∃ z, z = (lastO ts (p.paper, who) tm true).getD raw0 := ⟨_, rfl⟩
              rw [← hx, ← HLO.out]
              rw [show (encRaw (x, aa, ac)).toArray = revC x aa ac from rfl]
              obtain ⟨db, hdb⟩ : ∃ z, z = lo.isSome := ⟨_, rfl⟩
              have HDD := Lib.hid hdb
              rw [← hdb]
              obtain ⟨qb, hqb⟩ : ∃ z, z = inP s.pairs p.paper who := ⟨_, rfl⟩
              have HQB := Lib.hid hqb
              have hk4 := hk3.trans hw4
              have hk5 := hk4.then_alloc (.cells (revC x aa ac) 73)
              clear hx hdb hqb p0 p1 o0 o1 k4 heq hw4 hk4
              go_upto_region 9 with fail
              generalize w4.alloc (.cells (revC x aa ac) 73) = w5 at *
              refine wp_region_guard 9 1 74 true (by kernel_rfl) (by kernel_rfl) (by kernel_rfl) (fun _ wx => All w5 wx)
                (DL [QIs (.bool db), QIs (.bool db), QIs (.pointer (some ⟨kb, 0, none⟩)), QIs (.pointer (some ⟨kb, 0, none⟩)), QIs (.pointer (some ⟨kb, 0, none⟩)), QIs (.pointer (some ⟨kb, 2, none⟩)), QIs (.slice a2 l2 c2), QIs (.agg #[.string p.paper, .string who]), QIs (.bool qb)]) All (fun _ => Kept.refl _ _)
                (DL.keep (by simp only [List.forall_mem_cons, List.not_mem_nil, false_implies, implies_true, and_true]; exact ⟨QIs.stays _, QIs.stays _, QIs.stays _, QIs.stays _, QIs.stays _, QIs.stays _, QIs.stays _, QIs.stays _, QIs.stays _⟩)) (Kept.drew _ _) (fun _ _ h => h) (fun v _ h => ⟨_, h⟩) ?_ ?_
              · intro i o t ho hd hi k' a' wx hk' hg hdf hts hoth hgu hdeps
                obtain ⟨t1, t2, t3⟩ := HCC.out wx (hk5.trans hg)
                have p0 := cell_at (i := 0) t1 rfl
                have p1 := cell_at (i := 1) t1 rfl
                have o0 := cell_at (i := 0) t2 rfl
                have o1 := cell_at (i := 1) t2 rfl
                have k0 := cell_at (i := 0) t3 rfl
                have k1 := cell_at (i := 1) t3 rfl
                have k2 := cell_at (i := 2) t3 rfl
                have k3 := cell_at (i := 3) t3 rfl
                have k4 := cell_at (i := 4) t3 rfl
                have k5 := cell_at (i := 5) t3 rfl
                have k6 := cell_at (i := 6) t3 rfl
                clear t1 t2 t3
                have hz : i = 0 ∨ i = 1 ∨ i = 2 ∨ i = 3 ∨ i = 4 ∨ i = 5 ∨ i = 6 ∨ i = 7 ∨ i = 8 := by omega
                rcases hz with rfl | rfl | rfl | rfl | rfl | rfl | rfl | rfl | rfl
                · obtain rfl := Option.some.inj ho
                  obtain rfl := Option.some.inj hd
                  have e0 : a'.tmps.getD 11 undef = .bool db := tmp_of ((hoth 11 (by decide)).trans rfl)
                  clear hoth hdeps hdf hts ho hgu
                  refine wp_via (fun K' hK => ?_)
                  have HK := Lib.hid hK
                  clear hK
                  go_simp
                  exact HK.out _ _ ⟨_, rfl, hg, Kept.refl _ _, rfl⟩
                · obtain rfl := Option.some.inj ho
                  obtain rfl := Option.some.inj hd
                  have e0 : a'.tmps.getD 73 undef = .bool db := hdeps 0 (by decide) 73 rfl (fun h => by cases h)
                  clear hoth hdeps hdf hts ho hgu
                  refine wp_via (fun K' hK => ?_)
                  have HK := Lib.hid hK
                  clear hK
                  go_simp
                  exact HK.out _ _ ⟨_, rfl, hg, Kept.refl _ _, rfl⟩
                · obtain rfl := Option.some.inj ho
                  obtain rfl := Option.some.inj hd
                  have e0 : a'.tmps.getD 0 undef = .pointer (some ⟨kb, 0, none⟩) := tmp_of ((hoth 0 (by decide)).trans rfl)
                  clear hoth hdeps hdf hts ho hgu
                  refine wp_via (fun K' hK => ?_)
                  have HK := Lib.hid hK
                  clear hK
                  go_simp
                  exact HK.out _ _ ⟨_, rfl, hg, Kept.refl _ _, rfl⟩
                · obtain rfl := Option.some.inj ho
                  obtain rfl := Option.some.inj hd
                  have e0 : a'.tmps.getD 75 undef = .pointer (some ⟨kb, 0, none⟩) := hdeps 2 (by decide) 75 rfl (fun _ => hgu rfl)
                  clear hoth hdeps hdf hts ho hgu
                  refine wp_via (fun K' hK => ?_)
                  have HK := Lib.hid hK
                  clear hK
                  go_simp
                  exact HK.out _ _ ⟨_, rfl, hg, Kept.refl _ _, rfl⟩
                · obtain rfl := Option.some.inj ho
                  obtain rfl := Option.some.inj hd
                  have e0 : a'.tmps.getD 76 undef = .pointer (some ⟨kb, 0, none⟩) := hdeps 3 (by decide) 76 rfl (fun _ => hgu rfl)
                  clear hoth hdeps hdf hts ho hgu
                  refine wp_via (fun K' hK => ?_)
                  have HK := Lib.hid hK
                  clear hK
                  go_simp
                  exact HK.out _ _ ⟨_, rfl, hg, Kept.refl _ _, rfl⟩
                · obtain rfl := Option.some.inj ho
                  obtain rfl := Option.some.inj hd
                  have e0 : a'.tmps.getD 77 undef = .pointer (some ⟨kb, 0, none⟩) := hdeps 4 (by decide) 77 rfl (fun _ => hgu rfl)
                  clear hoth hdeps hdf hts ho hgu
                  refine wp_via (fun K' hK => ?_)
                  have HK := Lib.hid hK
                  clear hK
                  go_simp
                  exact HK.out _ _ ⟨_, rfl, hg, Kept.refl _ _, rfl⟩
                · obtain rfl := Option.some.inj ho
                  obtain rfl := Option.some.inj hd
                  have e0 : a'.tmps.getD 78 undef = .pointer (some ⟨kb, 2, none⟩) := hdeps 5 (by decide) 78 rfl (fun _ => hgu rfl)
                  clear hoth hdeps hdf hts ho hgu
                  refine wp_via (fun K' hK => ?_)
                  have HK := Lib.hid hK
                  clear hK
                  go_simp
                  exact HK.out _ _ ⟨_, rfl, hg, Kept.refl _ _, rfl⟩
                · obtain rfl := Option.some.inj ho
                  obtain rfl := Option.some.inj hd
                  have e0 : a'.tmps.getD 9 undef = .pointer (some ⟨ob, 0, none⟩) := tmp_of ((hoth 9 (by decide)).trans rfl)
                  clear hoth hdeps hdf hts ho hgu
                  refine wp_via (fun K' hK => ?_)
                  have HK := Lib.hid hK
                  clear hK
                  go_simp
                  exact HK.out _ _ ⟨_, rfl, hg, Kept.refl _ _, rfl⟩
                · obtain rfl := Option.some.inj ho
                  obtain rfl := Option.some.inj hd
                  have e0 : a'.tmps.getD 79 undef = .slice a2 l2 c2 := hdeps 6 (by decide) 79 rfl (fun _ => hgu rfl)
                  have e1 : a'.tmps.getD 80 undef = .agg #[.string p.paper, .string who] := hdeps 7 (by decide) 80 rfl (fun _ => hgu rfl)
                  clear hoth hdeps hdf hts ho hgu
                  refine wp_via (fun K' hK => ?_)
                  have HK := Lib.hid hK
                  clear hK
                  go_simp
                  refine (isInR_any a2 l2 c2 s.pairs ⟨p.paper, who, p.h1, hwho⟩ _ (HIS.out _ (hk5.trans hg)).pairs (by omega) HR2.out).mono ?_
                  rintro e w2x ⟨rfl, hk2x⟩
                  exact HK.out _ _ ⟨_, rfl, hg.trans hk2x, hk2x, by rw [HQB.out]; rfl⟩
              · intro wx f hg hd
                have e74f : f 74 = .bool db := hd 1 74 (by decide) rfl (fun h => by cases h)
                cases db with
                | false =>
                  refine ⟨?_⟩
                  rw [show dsts _ 9 = [73, 74, 75, 76, 77, 78, 79, 80, 81] from by kernel_rfl]
                  simp only [List.map_cons, List.map_nil, puts, Act.put, e74f, List.drop_succ_cons, List.drop_zero]
                  generalize f 73 = f73
                  generalize f 75 = f75
                  generalize f 76 = f76
                  generalize f 77 = f77
                  generalize f 78 = f78
                  generalize f 79 = f79
                  generalize f 80 = f80
                  generalize f 81 = f81
                  clear hd e74f f
                  simp only [List.setIfInBounds_toArray, List.set_cons_zero, List.set_cons_succ]
                  have hk6 := hk5.trans hg
                  clear hg
                  go_wp2_with fail
                  go_ret
                  exact ⟨by rw [HLV.out, lvB_z HX2.out.symm rfl HDD.out.symm]; rfl, HK1.out.trans hk6⟩
                | true =>
                  have e81f : f 81 = .bool qb := hd 8 81 (by decide) rfl (fun _ => e74f)
                  refine ⟨?_⟩
                  rw [show dsts _ 9 = [73, 74, 75, 76, 77, 78, 79, 80, 81] from by kernel_rfl]
                  simp only [List.map_cons, List.map_nil, puts, Act.put, e74f, e81f, List.drop_succ_cons, List.drop_zero]
                  generalize f 73 = f73
                  generalize f 75 = f75
                  generalize f 76 = f76
                  generalize f 77 = f77
                  generalize f 78 = f78
                  generalize f 79 = f79
                  generalize f 80 = f80
                  clear hd e74f e81f f
                  simp only [List.setIfInBounds_toArray, List.set_cons_zero, List.set_cons_succ]
                  have hk6 := hk5.trans hg
                  clear hg
                  have hq : qb = true := by rw [HQB.out]; exact HDB.out HDD.out.symm
                  subst hq
                  go_wp2_with fail
                  go_ret
                  exact ⟨by rw [HLV.out, lvB_2 HX2.out.symm rfl HDD.out.symm]; rfl, HK1.out.trans hk6⟩
end Go.Proofs.YtjbaijgdkkccbaaGreatDoor

/- LevelOf. -/
namespace Go.Proofs.YtjbaijgdkkccbaaGreatDoor
open Go.RowKit
set_option maxRecDepth 100000 in
set_option maxHeartbeats 12800000 in
theorem levelOf_any (a0 : Option Addr) (l0 c0 : Nat) (a1 : Option Addr) (l1 c1 : Nat) (a2 : Option Addr) (l2 c2 : Nat) (a3 : Option Addr) (l3 c3 : Nat) (a4 : Option Addr) (l4 c4 : Nat) (s : Set7) (al : Option Addr) (ll cl : Nat) (ts : List Raw) (who : ByteArray) (hwho : who.size ≤ 1000000) (p : Pair2) (tm : Int) (w : World) (his : SetIs (fun _ => True) w a0 l0 a1 l1 a2 l2 a3 l3 a4 l4 s) (hst : Sl RRaw 7 (fun _ => True) w al ll ts) (hl : ll ≤ 1000000) :
    Calls Tryz.prog 20 #[.agg #[.slice a0 l0 c0, .slice a1 l1 c1, .slice a2 l2 c2, .slice a3 l3 c3, .slice a4 l4 c4, .int .i64 s.due, .int .i64 s.reply], .slice al ll cl, .string who, .agg #[.string p.paper, .string p.person], .int .i64 tm] w fun e w' => e = .returned (.int .i64 (levelF s ts who p tm)) ∧ All w w' := by
  have hk1 : All w (((w.alloc (.cells #[.slice a0 l0 c0, .slice a1 l1 c1, .slice a2 l2 c2, .slice a3 l3 c3, .slice a4 l4 c4, .int .i64 s.due, .int .i64 s.reply] 31)).alloc (.cells #[.string p.paper, .string p.person] 39)).alloc (.cells #[.string p.paper, .string who] 39)) := ((Kept.alloc _ _ _).then_alloc _).then_alloc _
  have hb0 := heap_old (.cells #[.string p.paper, .string who] 39) (heap_old (.cells #[.string p.paper, .string p.person] 39) (heap_at w (.cells #[.slice a0 l0 c0, .slice a1 l1 c1, .slice a2 l2 c2, .slice a3 l3 c3, .slice a4 l4 c4, .int .i64 s.due, .int .i64 s.reply] 31) _ rfl))
  have hb1 := heap_old (.cells #[.string p.paper, .string who] 39) (heap_at (w.alloc (.cells #[.slice a0 l0 c0, .slice a1 l1 c1, .slice a2 l2 c2, .slice a3 l3 c3, .slice a4 l4 c4, .int .i64 s.due, .int .i64 s.reply] 31)) (.cells #[.string p.paper, .string p.person] 39) (w.heap.size + 1) (by simp))
  have hb2 := heap_at ((w.alloc (.cells #[.slice a0 l0 c0, .slice a1 l1 c1, .slice a2 l2 c2, .slice a3 l3 c3, .slice a4 l4 c4, .int .i64 s.due, .int .i64 s.reply] 31)).alloc (.cells #[.string p.paper, .string p.person] 39)) (.cells #[.string p.paper, .string who] 39) (w.heap.size + 2) (by simp)
  obtain ⟨sb, hsb⟩ : ∃ b, b = w.heap.size := ⟨_, rfl⟩
  obtain ⟨pb, hpb⟩ : ∃ b, b = w.heap.size + 1 := ⟨_, rfl⟩
  obtain ⟨ob, hob⟩ : ∃ b, b = w.heap.size + 2 := ⟨_, rfl⟩
  have HSB := Lib.hid hsb
  have HPB := Lib.hid (show pb = sb + 1 by omega)
  have HOB := Lib.hid (show ob = pb + 1 by omega)
  rw [← hsb] at hb0
  rw [← hpb] at hb1
  rw [← hob] at hb2
  have hn1 := his.n1
  have hn3 := his.n3
  have hn4 := his.n4
  have HCC := Lib.hid (fun (wx : World) (k : All (((w.alloc (.cells #[.slice a0 l0 c0, .slice a1 l1 c1, .slice a2 l2 c2, .slice a3 l3 c3, .slice a4 l4 c4, .int .i64 s.due, .int .i64 s.reply] 31)).alloc (.cells #[.string p.paper, .string p.person] 39)).alloc (.cells #[.string p.paper, .string who] 39)) wx) => (⟨k.heap hb1 trivial, k.heap hb2 trivial, k.heap hb0 trivial⟩ : wx.heap[pb]? = _ ∧ wx.heap[ob]? = _ ∧ wx.heap[sb]? = _))
  have HIS := Lib.hid (fun (wx : World) (k : All (((w.alloc (.cells #[.slice a0 l0 c0, .slice a1 l1 c1, .slice a2 l2 c2, .slice a3 l3 c3, .slice a4 l4 c4, .int .i64 s.due, .int .i64 s.reply] 31)).alloc (.cells #[.string p.paper, .string p.person] 39)).alloc (.cells #[.string p.paper, .string who] 39)) wx) => his.keep (hk1.trans k))
  have HVA := Lib.hid (valid_any al ll cl ts (p.paper, who) tm (((w.alloc (.cells #[.slice a0 l0 c0, .slice a1 l1 c1, .slice a2 l2 c2, .slice a3 l3 c3, .slice a4 l4 c4, .int .i64 s.due, .int .i64 s.reply] 31)).alloc (.cells #[.string p.paper, .string p.person] 39)).alloc (.cells #[.string p.paper, .string who] 39)) (hst.keep RRaw.ok hk1) hl)
  rw [levelF_b]
  obtain ⟨lo, hlo⟩ : ∃ z, z = lastO ts (p.paper, who) tm true := ⟨_, rfl⟩
  rw [← hlo] at HVA ⊢
  clear hlo
  obtain ⟨ab, hab⟩ : ∃ z, z = authB s.papers p.paper who := ⟨_, rfl⟩
  have HAB := Lib.hid hab
  rw [← hab]
  clear hab
  obtain ⟨rb, hrb⟩ : ∃ z, z = decide (s.reply ≤ tm) := ⟨_, rfl⟩
  have HRB := Lib.hid hrb
  rw [← hrb]
  clear hrb
  obtain ⟨bb, hbb⟩ : ∃ z, z = inP s.barred p.paper who := ⟨_, rfl⟩
  have HBB := Lib.hid hbb
  rw [← hbb]
  clear hbb
  obtain ⟨eb, heb⟩ : ∃ z, z = (who.toList == p.person.toList) := ⟨_, rfl⟩
  have HEB := Lib.hid heb
  rw [← heb]
  clear heb
  obtain ⟨cb, hcb⟩ : ∃ z, z = memB who s.chairs := ⟨_, rfl⟩
  have HCB := Lib.hid hcb
  rw [← hcb]
  clear hcb
  obtain ⟨db, hdb⟩ : ∃ z, z = lo.isSome := ⟨_, rfl⟩
  rw [← hdb] at HVA ⊢
  clear hdb
  obtain ⟨lv, hlv⟩ : ∃ z, z = lvB ab rb bb eb cb db := ⟨_, rfl⟩
  have HLV := Lib.hid hlv
  rw [← hlv]
  clear hlv
  have HK1 := Lib.hid hk1
  have hz1 : w.heap.size + 1 = sb + 1 := by rw [hsb]
  have HZ1 := Lib.hid hz1
  clear hz1
  obtain ⟨t1, t2, t3⟩ := HCC.out _ (Kept.refl _ _)
  have p0 := cell_at (i := 0) t1 rfl
  have p1 := cell_at (i := 1) t1 rfl
  have o0 := cell_at (i := 0) t2 rfl
  have o1 := cell_at (i := 1) t2 rfl
  have k1 := cell_at (i := 1) t3 rfl
  have k3 := cell_at (i := 3) t3 rfl
  have k4 := cell_at (i := 4) t3 rfl
  have k6 := cell_at (i := 6) t3 rfl
  clear t1 t2 t3
  clear hsb hpb hob hb0 hb1 hb2 hk1 his hst
  go_enter Tryz.func20, Tryz.ntmps20
  go_upto_region 2 with fail
  simp only [← HSB.out, ← HPB.out, ← HOB.out]
  generalize (((w.alloc (.cells #[.slice a0 l0 c0, .slice a1 l1 c1, .slice a2 l2 c2, .slice a3 l3 c3, .slice a4 l4 c4, .int .i64 s.due, .int .i64 s.reply] 31)).alloc (.cells #[.string p.paper, .string p.person] 39)).alloc (.cells #[.string p.paper, .string who] 39)) = w1 at *
  go_wp2_with fail
  refine (HVA.out).mono ?_
  rintro e w2 ⟨rfl, hw2⟩
  obtain ⟨⟨x, aa, ac⟩, hx⟩ : ∃ z, z = lo.getD raw0 := ⟨_, rfl⟩
  rw [← hx]
  rw [show (encRaw (x, aa, ac)).toArray = revC x aa ac from rfl]
  have hk3 := hw2.then_alloc (.cells (revC x aa ac) 73)
  clear p0 p1 o0 o1 k1 k3 k4 k6
  clear hx hw2
  go_upto_region 3 with fail
  generalize w2.alloc (.cells (revC x aa ac) 73) = w3 at *
  obtain ⟨t1, t2, t3⟩ := HCC.out _ hk3
  have p0 := cell_at (i := 0) t1 rfl
  have p1 := cell_at (i := 1) t1 rfl
  have o0 := cell_at (i := 0) t2 rfl
  have o1 := cell_at (i := 1) t2 rfl
  have k1 := cell_at (i := 1) t3 rfl
  have k3 := cell_at (i := 3) t3 rfl
  have k4 := cell_at (i := 4) t3 rfl
  have k6 := cell_at (i := 6) t3 rfl
  clear t1 t2 t3
  go_wp2_with fail
  refine (author_any a1 l1 c1 s.papers ⟨p.paper, who, p.h1, hwho⟩ _ (HIS.out _ hk3).papers (by omega)).mono ?_
  rintro e w4 ⟨rfl, hw4⟩
  have hk4 := hk3.trans hw4
  rw [← HAB.out]
  clear p0 p1 o0 o1 k1 k3 k4 k6
  obtain ⟨t1, t2, t3⟩ := HCC.out _ hk4
  have p0 := cell_at (i := 0) t1 rfl
  have p1 := cell_at (i := 1) t1 rfl
  have o0 := cell_at (i := 0) t2 rfl
  have o1 := cell_at (i := 1) t2 rfl
  have k1 := cell_at (i := 1) t3 rfl
  have k3 := cell_at (i := 3) t3 rfl
  have k4 := cell_at (i := 4) t3 rfl
  have k6 := cell_at (i := 6) t3 rfl
  clear t1 t2 t3
  have HA4 := Lib.hid (author_any a1 l1 c1 s.papers ⟨p.paper, who, p.h1, hwho⟩ _ (HIS.out _ hk4).papers (by omega))
  have hrb := HRB.out.symm
  cases ab with
  | true =>
    cases rb with
    | true =>
      go_wp2_with fail
      go_ret
      exact ⟨by rw [HLV.out, lvB_1 rfl]; rfl, HK1.out.trans hk4⟩
    | false =>
      go_wp2_with fail
      refine (HA4.out).mono ?_
      rintro e w5 ⟨rfl, hw5⟩
      rw [← HAB.out]
      clear p0 p1 o0 o1 k1 k3 k4 k6
      go_wp2_with fail
      go_ret
      exact ⟨by rw [HLV.out, lvB_0 rfl rfl]; rfl, HK1.out.trans (hk4.trans hw5)⟩
  | false =>
    go_wp2_with fail
    refine (HA4.out).mono ?_
    rintro e w5 ⟨rfl, hw5⟩
    rw [← HAB.out]
    have hk5 := hk4.trans hw5
    clear p0 p1 o0 o1 k1 k3 k4 k6
    obtain ⟨t1, t2, t3⟩ := HCC.out _ hk5
    have p0 := cell_at (i := 0) t1 rfl
    have p1 := cell_at (i := 1) t1 rfl
    have o0 := cell_at (i := 0) t2 rfl
    have o1 := cell_at (i := 1) t2 rfl
    have k1 := cell_at (i := 1) t3 rfl
    have k3 := cell_at (i := 3) t3 rfl
    have k4 := cell_at (i := 4) t3 rfl
    have k6 := cell_at (i := 6) t3 rfl
    clear t1 t2 t3
    clear hrb
    go_wp2_with fail
    refine (containsP_any a3 l3 c3 s.barred p.paper who _ (HIS.out _ hk5).barred (by omega)).mono ?_
    rintro e w6 ⟨rfl, hw6⟩
    rw [← HBB.out]
    have hk6 := hk5.trans hw6
    clear p0 p1 o0 o1 k1 k3 k4 k6
    obtain ⟨t1, t2, t3⟩ := HCC.out _ hk6
    have p0 := cell_at (i := 0) t1 rfl
    have p1 := cell_at (i := 1) t1 rfl
    have o0 := cell_at (i := 0) t2 rfl
    have o1 := cell_at (i := 1) t2 rfl
    have k1 := cell_at (i := 1) t3 rfl
    have k3 := cell_at (i := 3) t3 rfl
    have k4 := cell_at (i := 4) t3 rfl
    have k6 := cell_at (i := 6) t3 rfl
    clear t1 t2 t3
    have heq := HEB.out.symm
    cases bb with
    | true =>
      go_wp2_with fail
      go_ret
      exact ⟨by rw [HLV.out, lvB_0 rfl rfl]; rfl, HK1.out.trans hk6⟩
    | false =>
      cases eb with
      | true =>
        go_wp2_with fail
        go_ret
        exact ⟨by rw [HLV.out, lvB_3 rfl rfl]; rfl, HK1.out.trans hk6⟩
      | false =>
        go_wp2_with fail
        refine (contains_any a4 l4 c4 s.chairs who _ (HIS.out _ hk6).chairs (by omega)).mono ?_
        rintro e w' ⟨rfl, rfl⟩
        rw [← HCB.out]
        cases cb with
        | true =>
          go_wp2_with fail
          go_ret
          exact ⟨by rw [HLV.out, lvB_3 rfl rfl]; rfl, HK1.out.trans hk6⟩
        | false =>
          cases db with
          | true =>
            go_wp2_with fail
            go_ret
            exact ⟨by rw [HLV.out, lvB_2 rfl rfl rfl]; rfl, HK1.out.trans hk6⟩
          | false =>
            go_wp2_with fail
            go_ret
            exact ⟨by rw [HLV.out, lvB_z rfl rfl rfl]; rfl, HK1.out.trans hk6⟩
end Go.Proofs.YtjbaijgdkkccbaaGreatDoor

/- seen; Level. -/
namespace Go.Proofs.YtjbaijgdkkccbaaGreatDoor
open Go.RowKit

noncomputable def seenE (s : Set7) (xs : List Rev) (who : ByteArray) (p : Pair2) : Int := if revsF s xs ≠ 0 then revsF s xs else if isKeyB who = false then 5 else if inP s.pairs p.paper p.person = false then 8 else 0
theorem seenE_1 {s : Set7} {xs : List Rev} {who : ByteArray} {p : Pair2} (h : revsF s xs ≠ 0) : seenE s xs who p = revsF s xs := by rw [seenE, if_pos h]
theorem seenE_2 {s : Set7} {xs : List Rev} {who : ByteArray} {p : Pair2} (h : revsF s xs = 0) : seenE s xs who p = if isKeyB who = false then 5 else if inP s.pairs p.paper p.person = false then 8 else 0 := by rw [seenE, if_neg (fun e => e h)]
theorem seenE_zero {s : Set7} {xs : List Rev} {who : ByteArray} {p : Pair2} (h : seenE s xs who p = 0) : revsF s xs = 0 := by
  apply Classical.byContradiction
  intro h0
  rw [seenE_1 h0] at h
  exact h0 h
set_option maxRecDepth 100000 in
set_option maxHeartbeats 12800000 in
theorem seen_any (a0 : Option Addr) (l0 c0 : Nat) (a1 : Option Addr) (l1 c1 : Nat) (a2 : Option Addr) (l2 c2 : Nat) (a3 : Option Addr) (l3 c3 : Nat) (a4 : Option Addr) (l4 c4 : Nat) (s : Set7) (al : Option Addr) (ll cl : Nat) (xs : List Rev) (ts : List Raw) (who : ByteArray) (hwho : who.size ≤ 1000000) (p : Pair2) (w : World) (his : SetIs (fun _ => True) w a0 l0 a1 l1 a2 l2 a3 l3 a4 l4 s) (hsx : Sl RRev 7 (fun _ => True) w al ll xs) (hst : Sl RRaw 7 (fun _ => True) w al ll ts) (hl : ll ≤ 1000000) (hlc : ll ≤ cl) (hg : Glob w) :
    Calls Tryz.prog 59 #[.agg #[.slice a0 l0 c0, .slice a1 l1 c1, .slice a2 l2 c2, .slice a3 l3 c3, .slice a4 l4 c4, .int .i64 s.due, .int .i64 s.reply], .slice al ll cl, .string who, .agg #[.string p.paper, .string p.person]] w fun e w' => AtV (seenE s xs who p) #[.slice a0 l0 c0, .slice a1 l1 c1, .slice a2 l2 c2, .slice a3 l3 c3, .slice a4 l4 c4, .int .i64 s.due, .int .i64 s.reply] ts e w' ∧ All w w' := by
  have hk1 : All w ((w.alloc (.cells #[.slice a0 l0 c0, .slice a1 l1 c1, .slice a2 l2 c2, .slice a3 l3 c3, .slice a4 l4 c4, .int .i64 s.due, .int .i64 s.reply] 31)).alloc (.cells #[.string p.paper, .string p.person] 39)) := (Kept.alloc _ _ _).then_alloc _
  have hb0 := heap_old (.cells #[.string p.paper, .string p.person] 39) (heap_at w (.cells #[.slice a0 l0 c0, .slice a1 l1 c1, .slice a2 l2 c2, .slice a3 l3 c3, .slice a4 l4 c4, .int .i64 s.due, .int .i64 s.reply] 31) _ rfl)
  have hb1 := heap_at (w.alloc (.cells #[.slice a0 l0 c0, .slice a1 l1 c1, .slice a2 l2 c2, .slice a3 l3 c3, .slice a4 l4 c4, .int .i64 s.due, .int .i64 s.reply] 31)) (.cells #[.string p.paper, .string p.person] 39) (w.heap.size + 1) (by simp)
  obtain ⟨sb, hsb⟩ : ∃ b, b = w.heap.size := ⟨_, rfl⟩
  obtain ⟨pb, hpb⟩ : ∃ b, b = w.heap.size + 1 := ⟨_, rfl⟩
  have HSB := Lib.hid hsb
  have HPB := Lib.hid (show pb = sb + 1 by omega)
  rw [← hsb] at hb0
  rw [← hpb] at hb1
  have HCC := Lib.hid (fun (wx : World) (k : All ((w.alloc (.cells #[.slice a0 l0 c0, .slice a1 l1 c1, .slice a2 l2 c2, .slice a3 l3 c3, .slice a4 l4 c4, .int .i64 s.due, .int .i64 s.reply] 31)).alloc (.cells #[.string p.paper, .string p.person] 39)) wx) => (⟨k.heap hb1 trivial, k.heap hb0 trivial⟩ : wx.heap[pb]? = _ ∧ wx.heap[sb]? = _))
  have HK1 := Lib.hid hk1
  have HCK := Lib.hid (check_any a0 l0 c0 a1 l1 c1 a2 l2 c2 a3 l3 c3 a4 l4 c4 s al ll cl xs _ (his.keep hk1) (hsx.keep RRev.ok hk1) hl hlc (hg.keep hk1))
  have HBO := Lib.hid (fun (wx : World) (k : All ((w.alloc (.cells #[.slice a0 l0 c0, .slice a1 l1 c1, .slice a2 l2 c2, .slice a3 l3 c3, .slice a4 l4 c4, .int .i64 s.due, .int .i64 s.reply] 31)).alloc (.cells #[.string p.paper, .string p.person] 39)) wx) => bookOf_any a0 l0 c0 a1 l1 c1 a2 l2 c2 a3 l3 c3 a4 l4 c4 s al ll cl ts wx (hst.keep RRaw.ok (hk1.trans k)) hl)
  have HIS := Lib.hid (fun (wx : World) (k : All ((w.alloc (.cells #[.slice a0 l0 c0, .slice a1 l1 c1, .slice a2 l2 c2, .slice a3 l3 c3, .slice a4 l4 c4, .int .i64 s.due, .int .i64 s.reply] 31)).alloc (.cells #[.string p.paper, .string p.person] 39)) wx) => his.keep (hk1.trans k))
  have hn2 := his.n2
  obtain ⟨er, her⟩ : ∃ z, z = seenE s xs who p := ⟨_, rfl⟩
  have HER := Lib.hid her
  obtain ⟨ef, hef⟩ : ∃ z, z = revsF s xs := ⟨_, rfl⟩
  have HEF := Lib.hid hef
  rw [← her]
  obtain ⟨t1, t3⟩ := HCC.out _ (Kept.refl _ _)
  have p0 := cell_at (i := 0) t1 rfl
  have p1 := cell_at (i := 1) t1 rfl
  have e0 := cell_at (i := 0) t3 rfl
  have e1 := cell_at (i := 1) t3 rfl
  have e2 := cell_at (i := 2) t3 rfl
  have e3 := cell_at (i := 3) t3 rfl
  have e4 := cell_at (i := 4) t3 rfl
  have e5 := cell_at (i := 5) t3 rfl
  have e6 := cell_at (i := 6) t3 rfl
  clear t1 t3
  clear her hef hsb hpb hb0 hb1 his hsx hst hg hk1
  go_enter Tryz.func59, Tryz.ntmps59
  go_upto_region 1 with fail
  simp only [← HSB.out, ← HPB.out]
  generalize ((w.alloc (.cells #[.slice a0 l0 c0, .slice a1 l1 c1, .slice a2 l2 c2, .slice a3 l3 c3, .slice a4 l4 c4, .int .i64 s.due, .int .i64 s.reply] 31)).alloc (.cells #[.string p.paper, .string p.person] 39)) = w1 at *
  go_wp2_with fail
  refine (HCK.out).mono ?_
  rintro e w2 ⟨rfl, hw2⟩
  rw [← HEF.out]
  clear e0 e1 e2 e3 e4 e5 e6 p0 p1
  by_cases h0 : ef = 0
  case neg =>
    have hd : (ef != 0) = true := by simpa using h0
    have HE := Lib.hid (show er = ef from by rw [HER.out, seenE_1 (by rw [← HEF.out]; exact h0), HEF.out])
    have H0 := Lib.hid h0
    clear h0
    go_wp2_with fail
    go_ret2
    exact ⟨by rw [HE.out]; exact AtV.bad H0.out, HK1.out.trans hw2⟩
  case pos =>
    subst h0
    have hd : ((0 : Int) != 0) = false := rfl
    have HE := Lib.hid (show er = _ from by rw [HER.out, seenE_2 HEF.out.symm])
    have HRI := Lib.hid (setupF_rises (revsF_setup0 HEF.out.symm)).2.2.1
    go_wp2_with fail
    refine (isKey_any who _ (by omega)).mono ?_
    rintro e w' ⟨rfl, rfl⟩
    cases hk : isKeyB who with
    | false =>
      have HE2 := Lib.hid (show er = 5 from by rw [HE.out, if_pos hk])
      clear hk
      go_wp2_with fail
      go_ret2
      exact ⟨by rw [HE2.out]; exact AtV.bad (by decide), HK1.out.trans hw2⟩
    | true =>
      have HE2 := Lib.hid (show er = if inP s.pairs p.paper p.person = false then 8 else 0 from by rw [HE.out, if_neg (by simp [hk])])
      clear hk
      obtain ⟨t1, t3⟩ := HCC.out _ hw2
      have p0 := cell_at (i := 0) t1 rfl
      have p1 := cell_at (i := 1) t1 rfl
      have e0 := cell_at (i := 0) t3 rfl
      have e1 := cell_at (i := 1) t3 rfl
      have e2 := cell_at (i := 2) t3 rfl
      have e3 := cell_at (i := 3) t3 rfl
      have e4 := cell_at (i := 4) t3 rfl
      have e5 := cell_at (i := 5) t3 rfl
      have e6 := cell_at (i := 6) t3 rfl
      clear t1 t3
      go_wp2_with fail
      refine (isInR_any a2 l2 c2 s.pairs p _ (HIS.out _ hw2).pairs (by omega) HRI.out).mono ?_
      rintro e w3 ⟨rfl, hw3⟩
      have hk3 := hw2.trans hw3
      clear e0 e1 e2 e3 e4 e5 e6 p0 p1
      cases hi : inP s.pairs p.paper p.person with
      | false =>
        have HE3 := Lib.hid (show er = 8 from by rw [HE2.out, if_pos hi])
        clear hi
        go_wp2_with fail
        go_ret2
        exact ⟨by rw [HE3.out]; exact AtV.bad (by decide), HK1.out.trans hk3⟩
      | true =>
        have HE3 := Lib.hid (show er = 0 from by rw [HE2.out, if_neg (by simp [hi])])
        clear hi
        obtain ⟨t1, t3⟩ := HCC.out _ hk3
        have p0 := cell_at (i := 0) t1 rfl
        have p1 := cell_at (i := 1) t1 rfl
        have e0 := cell_at (i := 0) t3 rfl
        have e1 := cell_at (i := 1) t3 rfl
        have e2 := cell_at (i := 2) t3 rfl
        have e3 := cell_at (i := 3) t3 rfl
        have e4 := cell_at (i := 4) t3 rfl
        have e5 := cell_at (i := 5) t3 rfl
        have e6 := cell_at (i := 6) t3 rfl
        clear t1 t3
        go_wp2_with fail
        refine (HBO.out _ hk3).mono ?_
        rintro e w4 ⟨⟨kb, rfl, hbk⟩, hw4⟩
        clear e0 e1 e2 e3 e4 e5 e6 p0 p1
        go_wp2_with fail
        go_ret2
        exact ⟨by rw [HE3.out]; exact ⟨fun _ => ⟨kb, rfl, hbk⟩, fun h => absurd rfl h⟩, HK1.out.trans (hk3.trans hw4)⟩

noncomputable def levE (s : Set7) (xs : List Rev) (who : ByteArray) (p : Pair2) (tm : Int) : Int := if seenE s xs who p ≠ 0 then seenE s xs who p else if 0 ≤ tm ∧ tm < 5761440 then 0 else 1
theorem levE_1 {s : Set7} {xs : List Rev} {who : ByteArray} {p : Pair2} {tm : Int} (h : seenE s xs who p ≠ 0) : levE s xs who p tm = seenE s xs who p := by rw [levE, if_pos h]
theorem levE_2 {s : Set7} {xs : List Rev} {who : ByteArray} {p : Pair2} {tm : Int} (h : seenE s xs who p = 0) : levE s xs who p tm = if 0 ≤ tm ∧ tm < 5761440 then 0 else 1 := by rw [levE, if_neg (fun e => e h)]
/-- A number, or nothing and an error. -/
def NumV (er lv : Int) (e : Ending) : Prop := e = .returned (.tuple #[.int .i64 (if er = 0 then lv else 0), .int .i64 er])
theorem NumV.ok {lv : Int} : NumV 0 lv (.returned (.tuple #[.int .i64 lv, .int .i64 0])) := rfl
theorem NumV.bad {er lv : Int} (h : er ≠ 0) : NumV er lv (.returned (.tuple #[.int .i64 0, .int .i64 er])) := by unfold NumV; rw [if_neg h]
set_option maxRecDepth 100000 in
set_option maxHeartbeats 12800000 in
theorem levelP_any (a0 : Option Addr) (l0 c0 : Nat) (a1 : Option Addr) (l1 c1 : Nat) (a2 : Option Addr) (l2 c2 : Nat) (a3 : Option Addr) (l3 c3 : Nat) (a4 : Option Addr) (l4 c4 : Nat) (s : Set7) (al : Option Addr) (ll cl : Nat) (xs : List Rev) (ts : List Raw) (who : ByteArray) (hwho : who.size ≤ 1000000) (p : Pair2) (tm : Int) (w : World) (his : SetIs (fun _ => True) w a0 l0 a1 l1 a2 l2 a3 l3 a4 l4 s) (hsx : Sl RRev 7 (fun _ => True) w al ll xs) (hst : Sl RRaw 7 (fun _ => True) w al ll ts) (hl : ll ≤ 1000000) (hlc : ll ≤ cl) (hg : Glob w) (hts : ts.map (·.1) = xs) :
    Calls Tryz.prog 14 #[.agg #[.slice a0 l0 c0, .slice a1 l1 c1, .slice a2 l2 c2, .slice a3 l3 c3, .slice a4 l4 c4, .int .i64 s.due, .int .i64 s.reply], .slice al ll cl, .string who, .agg #[.string p.paper, .string p.person], .int .i64 tm] w fun e w' => NumV (levE s xs who p tm) (levelF s ts who p tm) e ∧ All w w' := by
  have hk1 : All w ((w.alloc (.cells #[.slice a0 l0 c0, .slice a1 l1 c1, .slice a2 l2 c2, .slice a3 l3 c3, .slice a4 l4 c4, .int .i64 s.due, .int .i64 s.reply] 31)).alloc (.cells #[.string p.paper, .string p.person] 39)) := (Kept.alloc _ _ _).then_alloc _
  have hb0 := heap_old (.cells #[.string p.paper, .string p.person] 39) (heap_at w (.cells #[.slice a0 l0 c0, .slice a1 l1 c1, .slice a2 l2 c2, .slice a3 l3 c3, .slice a4 l4 c4, .int .i64 s.due, .int .i64 s.reply] 31) _ rfl)
  have hb1 := heap_at (w.alloc (.cells #[.slice a0 l0 c0, .slice a1 l1 c1, .slice a2 l2 c2, .slice a3 l3 c3, .slice a4 l4 c4, .int .i64 s.due, .int .i64 s.reply] 31)) (.cells #[.string p.paper, .string p.person] 39) (w.heap.size + 1) (by simp)
  obtain ⟨sb, hsb⟩ : ∃ b, b = w.heap.size := ⟨_, rfl⟩
  obtain ⟨pb, hpb⟩ : ∃ b, b = w.heap.size + 1 := ⟨_, rfl⟩
  have HSB := Lib.hid hsb
  have HPB := Lib.hid (show pb = sb + 1 by omega)
  rw [← hsb] at hb0
  rw [← hpb] at hb1
  have HCC := Lib.hid (fun (wx : World) (k : All ((w.alloc (.cells #[.slice a0 l0 c0, .slice a1 l1 c1, .slice a2 l2 c2, .slice a3 l3 c3, .slice a4 l4 c4, .int .i64 s.due, .int .i64 s.reply] 31)).alloc (.cells #[.string p.paper, .string p.person] 39)) wx) => (⟨k.heap hb1 trivial, k.heap hb0 trivial⟩ : wx.heap[pb]? = _ ∧ wx.heap[sb]? = _))
  have HK1 := Lib.hid hk1
  have HSN := Lib.hid (seen_any a0 l0 c0 a1 l1 c1 a2 l2 c2 a3 l3 c3 a4 l4 c4 s al ll cl xs ts who hwho p _ (his.keep hk1) (hsx.keep RRev.ok hk1) (hst.keep RRaw.ok hk1) hl hlc (hg.keep hk1))
  have HIS := Lib.hid (fun (wx : World) (k : All ((w.alloc (.cells #[.slice a0 l0 c0, .slice a1 l1 c1, .slice a2 l2 c2, .slice a3 l3 c3, .slice a4 l4 c4, .int .i64 s.due, .int .i64 s.reply] 31)).alloc (.cells #[.string p.paper, .string p.person] 39)) wx) => his.keep (hk1.trans k))
  have HTL : ts.length ≤ 1000000 := by have := hst.len; omega
  have HIN := Lib.hid (fun (h : revsF s xs = 0) (z : Raw) (hz : z ∈ ts) => revsF_pairs h z.1 (by rw [← hts]; exact List.mem_map_of_mem hz))
  obtain ⟨er, her⟩ : ∃ z, z = levE s xs who p tm := ⟨_, rfl⟩
  have HER := Lib.hid her
  obtain ⟨ef, hef⟩ : ∃ z, z = seenE s xs who p := ⟨_, rfl⟩
  have HEF := Lib.hid hef
  rw [← hef] at HSN
  rw [← her]
  obtain ⟨lv, hlv⟩ : ∃ z, z = levelF s ts who p tm := ⟨_, rfl⟩
  have HLV := Lib.hid hlv
  rw [← hlv]
  obtain ⟨t1, t3⟩ := HCC.out _ (Kept.refl _ _)
  have p0 := cell_at (i := 0) t1 rfl
  have p1 := cell_at (i := 1) t1 rfl
  have e0 := cell_at (i := 0) t3 rfl
  have e1 := cell_at (i := 1) t3 rfl
  have e2 := cell_at (i := 2) t3 rfl
  have e3 := cell_at (i := 3) t3 rfl
  have e4 := cell_at (i := 4) t3 rfl
  have e5 := cell_at (i := 5) t3 rfl
  have e6 := cell_at (i := 6) t3 rfl
  clear t1 t3
  clear her hef hlv hsb hpb hb0 hb1 his hsx hst hg hk1
  go_enter Tryz.func14, Tryz.ntmps14
  go_upto_region 1 with fail
  simp only [← HSB.out, ← HPB.out]
  generalize ((w.alloc (.cells #[.slice a0 l0 c0, .slice a1 l1 c1, .slice a2 l2 c2, .slice a3 l3 c3, .slice a4 l4 c4, .int .i64 s.due, .int .i64 s.reply] 31)).alloc (.cells #[.string p.paper, .string p.person] 39)) = w1 at *
  go_wp2_with fail
  refine (HSN.out).mono ?_
  rintro e w2 ⟨hv, hw2⟩
  clear e0 e1 e2 e3 e4 e5 e6 p0 p1
  by_cases h0 : ef = 0
  case neg =>
    obtain rfl := hv.2 h0
    have hd : (ef != 0) = true := by simpa using h0
    have HE := Lib.hid (show er = ef from by rw [HER.out, levE_1 (by rw [← HEF.out]; exact h0), HEF.out])
    have H0 := Lib.hid h0
    clear h0 hv
    go_wp2_with fail
    go_ret2
    exact ⟨by rw [HE.out]; exact NumV.bad H0.out, HK1.out.trans hw2⟩
  case pos =>
    obtain ⟨kb, rfl, hbk⟩ := hv.1 h0
    subst h0
    have hd : ((0 : Int) != 0) = false := rfl
    have HE := Lib.hid (show er = _ from by rw [HER.out, levE_2 HEF.out.symm])
    have HRZ := Lib.hid (seenE_zero HEF.out.symm)
    clear hv
    go_wp2_with fail
    refine (isMoment_any tm _).mono ?_
    rintro e w' ⟨rfl, rfl⟩
    by_cases hm : 0 ≤ tm ∧ tm < 5761440
    case neg =>
      rw [decide_eq_false hm]
      have HE2 := Lib.hid (show er = 1 from by rw [HE.out, if_neg hm])
      clear hm
      go_wp2_with fail
      go_ret2
      exact ⟨by rw [HE2.out]; exact NumV.bad (by decide), HK1.out.trans hw2⟩
    case pos =>
      rw [decide_eq_true hm]
      have HE2 := Lib.hid (show er = 0 from by rw [HE.out, if_pos hm])
      have HLC := Lib.hid (level_any a0 l0 c0 a1 l1 c1 a2 l2 c2 a3 l3 c3 a4 l4 c4 s ts HTL who hwho p tm kb w2 hbk (HIS.out _ hw2) (revsF_setup0 HRZ.out) (HIN.out HRZ.out))
      rw [← HLV.out] at HLC
      obtain ⟨t1, t3⟩ := HCC.out _ hw2
      have p0 := cell_at (i := 0) t1 rfl
      have p1 := cell_at (i := 1) t1 rfl
      have e0 := cell_at (i := 0) t3 rfl
      have e1 := cell_at (i := 1) t3 rfl
      have e2 := cell_at (i := 2) t3 rfl
      have e3 := cell_at (i := 3) t3 rfl
      have e4 := cell_at (i := 4) t3 rfl
      have e5 := cell_at (i := 5) t3 rfl
      have e6 := cell_at (i := 6) t3 rfl
      clear t1 t3
      clear hm hbk
      go_wp2_with fail
      refine (HLC.out).mono ?_
      rintro e w3 ⟨rfl, hw3⟩
      go_wp2_with fail
      go_ret2
      exact ⟨by rw [HE2.out]; exact NumV.ok, HK1.out.trans (hw2.trans hw3)⟩
end Go.Proofs.YtjbaijgdkkccbaaGreatDoor

/- Since; SinceOf. -/
namespace Go.Proofs.YtjbaijgdkkccbaaGreatDoor
open Go.RowKit

/-- A moment, or an error. -/
def SinV (er : Int) (o : Option Int) (e : Ending) : Prop := e = .returned (.tuple #[.int .i64 (if er = 0 then o.getD 0 else 0), .int .i64 (if er ≠ 0 then er else if o.isSome = true then 0 else 8)])
theorem SinV.bad {er : Int} {o : Option Int} (h : er ≠ 0) : SinV er o (.returned (.tuple #[.int .i64 0, .int .i64 er])) := by unfold SinV; rw [if_neg h, if_pos h]
theorem SinV.some {m : Int} : SinV 0 (some m) (.returned (.tuple #[.int .i64 m, .int .i64 0])) := rfl
theorem SinV.none : SinV 0 none (.returned (.tuple #[.int .i64 0, .int .i64 8])) := rfl
def SinW (o : Option Int) (e : Ending) : Prop := e = .returned (.tuple #[.int .i64 (o.getD 0), .bool o.isSome])
theorem Acc.lit2 {T : TypeId} (B : Nat) (w : World) (a b : Int) (hB : B ≤ w.heap.size) : Acc RInt 1 T (fun _ => False) B (w.alloc (.cells #[.int .i64 a, .int .i64 b] T)) (.slice (some ⟨w.heap.size, 0, none⟩) 2 2) [a, b] := by
  apply Acc.ofIntCells
  exact ⟨rfl, Or.inr ⟨w.heap.size, 2, #[.int .i64 a, .int .i64 b], rfl, hB, heap_at _ _ _ rfl, Nat.le_refl _, by decide, rfl, rfl⟩⟩
theorem findI_take {p : Int → Bool} {l : List Int} {k : Nat} {y : Int} (h : (l.take k).find? p = none) (ht : l.take (k + 1) = l.take k ++ [y]) (hy : p y = false) : (l.take (k + 1)).find? p = none := by
  rw [ht, List.find?_append, h]; simp [hy]
theorem findI_hit {p : Int → Bool} {l : List Int} {k : Nat} {y : Int} (h : (l.take k).find? p = none) (hk : l[k]? = some y) (hy : p y = true) : l.find? p = some y := by
  have h1 : l = l.take k ++ l.drop k := (List.take_append_drop k l).symm
  have h2 : l.drop k = y :: l.drop (k + 1) := by
    obtain ⟨h3, h4⟩ := List.getElem?_eq_some_iff.1 hk
    rw [List.drop_eq_getElem_cons h3, h4]
  rw [h1, List.find?_append, h, h2, List.find?_cons, hy]; rfl
theorem findI_end {p : Int → Bool} {l : List Int} {k : Nat} (h : (l.take k).find? p = none) (hk : l.length ≤ k) : l.find? p = none := by
  rwa [List.take_of_length_le hk] at h
theorem bookF_len2 (ts : List Raw) (p : K2) : (bookF ts p).length ≤ ts.length := List.length_filter_le _ _
set_option maxRecDepth 100000 in
set_option maxHeartbeats 12800000 in
theorem since_any (a0 : Option Addr) (l0 c0 : Nat) (a1 : Option Addr) (l1 c1 : Nat) (a2 : Option Addr) (l2 c2 : Nat) (a3 : Option Addr) (l3 c3 : Nat) (a4 : Option Addr) (l4 c4 : Nat) (s : Set7) (al : Option Addr) (ll cl : Nat) (xs : List Rev) (ts : List Raw) (who : ByteArray) (hwho : who.size ≤ 1000000) (p : Pair2) (w : World) (his : SetIs (fun _ => True) w a0 l0 a1 l1 a2 l2 a3 l3 a4 l4 s) (hsx : Sl RRev 7 (fun _ => True) w al ll xs) (hst : Sl RRaw 7 (fun _ => True) w al ll ts) (hl : ll ≤ 100000) (hlc : ll ≤ cl) (hg : Glob w) (hts : ts.map (·.1) = xs) :
    Calls Tryz.prog 15 #[.agg #[.slice a0 l0 c0, .slice a1 l1 c1, .slice a2 l2 c2, .slice a3 l3 c3, .slice a4 l4 c4, .int .i64 s.due, .int .i64 s.reply], .slice al ll cl, .string who, .agg #[.string p.paper, .string p.person]] w fun e w' => SinV (seenE s xs who p) (sinceB s ts who p) e ∧ All w w' := by
  have hk1 : All w ((w.alloc (.cells #[.slice a0 l0 c0, .slice a1 l1 c1, .slice a2 l2 c2, .slice a3 l3 c3, .slice a4 l4 c4, .int .i64 s.due, .int .i64 s.reply] 31)).alloc (.cells #[.string p.paper, .string p.person] 39)) := (Kept.alloc _ _ _).then_alloc _
  have hb0 := heap_old (.cells #[.string p.paper, .string p.person] 39) (heap_at w (.cells #[.slice a0 l0 c0, .slice a1 l1 c1, .slice a2 l2 c2, .slice a3 l3 c3, .slice a4 l4 c4, .int .i64 s.due, .int .i64 s.reply] 31) _ rfl)
  have hb1 := heap_at (w.alloc (.cells #[.slice a0 l0 c0, .slice a1 l1 c1, .slice a2 l2 c2, .slice a3 l3 c3, .slice a4 l4 c4, .int .i64 s.due, .int .i64 s.reply] 31)) (.cells #[.string p.paper, .string p.person] 39) (w.heap.size + 1) (by simp)
  obtain ⟨sb, hsb⟩ : ∃ b, b = w.heap.size := ⟨_, rfl⟩
  obtain ⟨pb, hpb⟩ : ∃ b, b = w.heap.size + 1 := ⟨_, rfl⟩
  have HSB := Lib.hid hsb
  have HPB := Lib.hid (show pb = sb + 1 by omega)
  rw [← hsb] at hb0
  rw [← hpb] at hb1
  have HCC := Lib.hid (fun (wx : World) (k : All ((w.alloc (.cells #[.slice a0 l0 c0, .slice a1 l1 c1, .slice a2 l2 c2, .slice a3 l3 c3, .slice a4 l4 c4, .int .i64 s.due, .int .i64 s.reply] 31)).alloc (.cells #[.string p.paper, .string p.person] 39)) wx) => (⟨k.heap hb1 trivial, k.heap hb0 trivial⟩ : wx.heap[pb]? = _ ∧ wx.heap[sb]? = _))
  have HK1 := Lib.hid hk1
  have HSN := Lib.hid (seen_any a0 l0 c0 a1 l1 c1 a2 l2 c2 a3 l3 c3 a4 l4 c4 s al ll cl xs ts who hwho p _ (his.keep hk1) (hsx.keep RRev.ok hk1) (hst.keep RRaw.ok hk1) (by omega) hlc (hg.keep hk1))
  have HIS := Lib.hid (fun (wx : World) (k : All ((w.alloc (.cells #[.slice a0 l0 c0, .slice a1 l1 c1, .slice a2 l2 c2, .slice a3 l3 c3, .slice a4 l4 c4, .int .i64 s.due, .int .i64 s.reply] 31)).alloc (.cells #[.string p.paper, .string p.person] 39)) wx) => his.keep (hk1.trans k))
  have HTL : ts.length ≤ 1000000 := by have := hst.len; omega
  have HTL2 : ts.length ≤ 100000 := by have := hst.len; omega
  have HIN := Lib.hid (fun (h : revsF s xs = 0) (z : Raw) (hz : z ∈ ts) => revsF_pairs h z.1 (by rw [← hts]; exact List.mem_map_of_mem hz))
  obtain ⟨ef, hef⟩ : ∃ z, z = seenE s xs who p := ⟨_, rfl⟩
  have HEF := Lib.hid hef
  rw [← hef] at HSN ⊢
  obtain ⟨so, hso⟩ : ∃ z, z = sinceB s ts who p := ⟨_, rfl⟩
  have HSO := Lib.hid hso
  rw [← hso]
  obtain ⟨t1, t3⟩ := HCC.out _ (Kept.refl _ _)
  have p0 := cell_at (i := 0) t1 rfl
  have p1 := cell_at (i := 1) t1 rfl
  have e0 := cell_at (i := 0) t3 rfl
  have e1 := cell_at (i := 1) t3 rfl
  have e2 := cell_at (i := 2) t3 rfl
  have e3 := cell_at (i := 3) t3 rfl
  have e4 := cell_at (i := 4) t3 rfl
  have e5 := cell_at (i := 5) t3 rfl
  have e6 := cell_at (i := 6) t3 rfl
  clear t1 t3
  clear hef hso hsb hpb hb0 hb1 his hsx hst hg hk1
  go_enter Tryz.func15, Tryz.ntmps15
  go_upto_region 1 with fail
  simp only [← HSB.out, ← HPB.out]
  generalize ((w.alloc (.cells #[.slice a0 l0 c0, .slice a1 l1 c1, .slice a2 l2 c2, .slice a3 l3 c3, .slice a4 l4 c4, .int .i64 s.due, .int .i64 s.reply] 31)).alloc (.cells #[.string p.paper, .string p.person] 39)) = w1 at *
  go_wp2_with fail
  refine (HSN.out).mono ?_
  rintro e w2 ⟨hv, hw2⟩
  clear e0 e1 e2 e3 e4 e5 e6 p0 p1
  by_cases h0 : ef = 0
  case neg =>
    obtain rfl := hv.2 h0
    have hd : (ef != 0) = true := by simpa using h0
    have H0 := Lib.hid h0
    clear h0 hv
    go_wp2_with fail
    go_ret2
    exact ⟨SinV.bad H0.out, HK1.out.trans hw2⟩
  case pos =>
    obtain ⟨kb, rfl, hbk⟩ := hv.1 h0
    subst h0
    have hd : ((0 : Int) != 0) = false := rfl
    have HRZ := Lib.hid (seenE_zero HEF.out.symm)
    obtain ⟨mb, B, n, vals, hkb, hrow⟩ := hbk
    obtain ⟨pa, pc, hvp, hpc⟩ := (hrow.acc (p.paper, who)).form
    obtain ⟨own, hown⟩ : ∃ z, z = bookF ts (p.paper, who) := ⟨_, rfl⟩
    have HOWN := Lib.hid hown
    have hol : own.length ≤ 100000 := by have := bookF_len2 ts (p.paper, who); rw [hown]; omega
    obtain ⟨pa', pc', hv', hsl⟩ := (hrow.acc (p.paper, who)).sl RRaw.ok (by decide) (G := fun _ => True) (fun _ h => h.elim) (fun _ _ => trivial)
    rw [hvp] at hv'
    injection hv' with hv1 hv2 hv3
    subst hv1 hv3
    rw [← hown] at hsl hvp
    have HSL := Lib.hid (fun (wx : World) (k : All w2 wx) => hsl.keep RRaw.ok k)
    have HBK := Lib.hid (fun (wx : World) (k : All w2 wx) => (⟨mb, B, n, vals, k.heap hkb trivial, hrow.keep flatRaw k⟩ : BookIs wx kb #[.slice a0 l0 c0, .slice a1 l1 c1, .slice a2 l2 c2, .slice a3 l3 c3, .slice a4 l4 c4, .int .i64 s.due, .int .i64 s.reply] ts))
    have HKB := Lib.hid (fun (wx : World) (k : All w2 wx) => (show wx.heap[kb]? = some (.cells #[.slice a0 l0 c0, .slice a1 l1 c1, .slice a2 l2 c2, .slice a3 l3 c3, .slice a4 l4 c4, .int .i64 s.due, .int .i64 s.reply, .map (some mb)] 105 (0, 0)) from k.heap hkb trivial))
    have HLK := Lib.hid (fun (wx : World) (k : All w2 wx) => (show (Instr.lookup 103 (.map (some mb)) (.agg #[.string p.paper, .string who]) false).run Tryz.prog wx = .ok (.slice pa own.length pc) wx from by rw [← hvp]; exact RowK.look (hrow.keep flatRaw k) isK2P Tryz.underlying103 (Tryz.zeroValue32 wx) (p := (p.paper, who)) ⟨p.h1, hwho⟩))
    have HLC := Lib.hid (fun (wx : World) (k : All w2 wx) (tm : Int) => level_any a0 l0 c0 a1 l1 c1 a2 l2 c2 a3 l3 c3 a4 l4 c4 s ts HTL who hwho p tm kb wx (HBK.out wx k) (HIS.out _ (hw2.trans k)) (revsF_setup0 HRZ.out) (HIN.out HRZ.out))
    obtain ⟨t1, t3⟩ := HCC.out _ hw2
    have p0 := cell_at (i := 0) t1 rfl
    have p1 := cell_at (i := 1) t1 rfl
    have e0 := cell_at (i := 0) t3 rfl
    have e1 := cell_at (i := 1) t3 rfl
    have e2 := cell_at (i := 2) t3 rfl
    have e3 := cell_at (i := 3) t3 rfl
    have e4 := cell_at (i := 4) t3 rfl
    have e5 := cell_at (i := 5) t3 rfl
    have e6 := cell_at (i := 6) t3 rfl
    clear t1 t3
    clear hv hrow hkb hown hvp hsl hpc
    have hk3 : All w2 (w2.alloc (.cells #[.int .i64 0, .int .i64 s.reply] 3)) := Kept.alloc _ _ _
    have hac3 := Acc.lit2 (T := 3) w2.heap.size w2 0 s.reply (Nat.le_refl _)
    go_upto_region 5 with fail
    obtain ⟨mo, hmo⟩ : ∃ z, z = w2.heap.size := ⟨_, rfl⟩
    have HMO := Lib.hid hmo
    rw [← hmo] at hac3
    simp only [← HMO.out]
    clear hmo e0 e1 e2 e3 e4 e5 e6 p0 p1
    have hmo2 : mo ≤ w2.heap.size := Nat.le_of_eq HMO.out
    generalize w2.alloc (.cells #[.int .i64 0, .int .i64 s.reply] 3) = w3 at *
    have t1 := (HCC.out w3 (hw2.trans hk3)).1
    have p0 := cell_at (i := 0) t1 rfl
    have p1 := cell_at (i := 1) t1 rfl
    have q7 := cell_at (i := 7) (HKB.out w3 hk3) rfl
    have lk := fun n => HLK.out _ (hk3.then_drewN n)
    clear t1
    go_quiet (fail)
    rename_i nq
    have hk4 := hk3.then_drewN nq
    have HAC := Lib.hid (hac3.keepAll RInt.ok (Kept.drewN _ _ nq))
    clear hac3 hk3 p0 p1 q7 lk
    generalize w3.drewN nq = w4 at *
    obtain ⟨no, hno⟩ : ∃ z, z = own.length := ⟨_, rfl⟩
    have HNO := Lib.hid hno
    rw [← hno] at HSL hol ⊢
    clear hno
    go_wp2_with fail
    go_loopw [12, 41] (fun o i wr => ∃ k : Nat, k ≤ no ∧ i = .int .i64 k ∧ Acc RInt 1 3 (fun _ => False) mo wr o (0 :: s.reply :: (own.take k).map (·.1.tm)) ∧ All w2 wr) (fun _ i _ => no - (intOf i).toNat)
    case atStart => exact ⟨0, Nat.zero_le _, rfl, HAC.out, hk4⟩
    case round =>
      obtain ⟨k, hk, rfl, hacc, hwr⟩ := hrel
      obtain ⟨wo, rfl⟩ : ∃ wo : World, wo = wr := ⟨_, rfl⟩
      by_cases hlt : k < no
      · obtain ⟨b, off, z, ha, -, r0, r1, r2, r3, r4, r5, r6, -, -, htk⟩ := (HSL.out _ hwr).atRaw hlt
        subst ha
        have HY := Lib.hid (show 0 :: s.reply :: (own.take (k + 1)).map (·.1.tm) = (0 :: s.reply :: (own.take k).map (·.1.tm)) ++ [z.1.tm] from by rw [htk]; simp)
        obtain ⟨os, hos⟩ : ∃ q : List Int, q = 0 :: s.reply :: (own.take k).map (·.1.tm) := ⟨_, rfl⟩
        have hon : os.length ≤ k + 2 := by rw [hos]; have := List.length_take_le k own; simp only [List.length_cons, List.length_map]; omega
        rw [← hos] at hacc HY
        have hko : All wo (wo.alloc (.cells #[.int .i64 z.1.no, .int .i64 z.1.tm, .string z.1.paper, .string z.1.person, .string z.1.by_, .bool z.1.done, .slice z.2.1 z.1.answers.length z.2.2] 73)) := Kept.alloc _ _ _
        have hblk := heap_at wo (.cells #[.int .i64 z.1.no, .int .i64 z.1.tm, .string z.1.paper, .string z.1.person, .string z.1.by_, .bool z.1.done, .slice z.2.1 z.1.answers.length z.2.2] 73) _ rfl
        obtain ⟨rb, hrb⟩ : ∃ q, q = wo.heap.size := ⟨_, rfl⟩
        have HRB := Lib.hid hrb
        rw [← hrb] at hblk
        have hac1 := hacc.keepAll RInt.ok hko
        have hwa := hwr.trans hko
        obtain ⟨oa, oc, rfl, hoc⟩ := hac1.form
        clear htk hacc hwr hko hrb hos
        go_upto_region 8 with fail
        simp only [← HRB.out]
        generalize wo.alloc (.cells #[.int .i64 z.1.no, .int .i64 z.1.tm, .string z.1.paper, .string z.1.person, .string z.1.by_, .bool z.1.done, .slice z.2.1 z.1.answers.length z.2.2] 73) = wa at *
        have u1 := cell_at (i := 1) hblk rfl
        have hsz := hwa.size
        clear hblk r0 r1 r2 r3 r4 r5 r6
        go_wp2_with (at_builtin; refine wp_append1 RInt.ok _ rfl _ _ 22 rfl mo 3 (.int .i64 0) 1 8 Tryz.underlying22 (by kernel_rfl) rfl (by decide) (fun _ => False) _ (os) rfl (hac1.keepAll RInt.ok (Kept.alloc _ _ _)) ⟨_, 0, none⟩ 1 [.int .i64 z.1.tm] rfl rfl (World.news_of_block (cs := #[.int .i64 z.1.tm]) (heap_at _ _ _ (by simp))) (by simp [Value.oneCell']) z.1.tm rfl (by omega) (by decide) (by simp at *; omega) ?_)
        intro p9 c9 w9 hacc9 hg9 _
        have hk9 := Lib.hid ((hwa.then_alloc _).grown hg9 (fun j hj => Or.inl (by have := (hac1.lt j hj).1; have := HMO.out; omega)))
        have hfin := Lib.hid hacc9
        clear hacc9 hg9 hac1 u1 hwa
        go_wp2_with fail
        go_roundw
        case rel => exact ⟨k + 1, by omega, by go_num, by rw [HY.out]; exact hfin.out, hk9.out⟩
        case measure => simp [intOf]; omega
      · have hdk : decide ((k : Int) < (no : Int)) = false := by simp; omega
        have HE3 := Lib.hid (show (own.take k).map (·.1.tm) = ownT ts (p.paper, who) from by rw [List.take_of_length_le (by have := HNO.out; omega), HOWN.out]; rfl)
        rw [HE3.out] at hacc
        obtain ⟨zs, hzs⟩ : ∃ q, q = momsB s ts who p := ⟨_, rfl⟩
        have HZS := Lib.hid (show so = (srtI zs).find? (hitF s ts who p) from by rw [HSO.out, hzs]; rfl)
        have hzl : zs.length ≤ 100002 := by rw [hzs, momsB, ownT, ← HOWN.out]; simp only [List.length_cons, List.length_map]; have := HNO.out; omega
        rw [show 0 :: s.reply :: ownT ts (p.paper, who) = zs from by rw [hzs]; rfl] at hacc
        clear hzs
        have HSO9 := Lib.hid (sortI_any _ zs wo hacc (by omega))
        have HLT := Lib.hid hacc.lt
        obtain ⟨oa, oc, rfl, -⟩ := hacc.form
        clear hacc
        go_wp2_with fail
        refine HSO9.out.mono ?_
        rintro e w5 ⟨rfl, hac5, hg5⟩
        have hw5 := hwr.grown hg5 (fun j hj => Or.inl (by have := (HLT.out j hj).1; have := HMO.out; omega))
        obtain ⟨ss, hss⟩ : ∃ q, q = srtI zs := ⟨_, rfl⟩
        have hsl : ss.length = zs.length := by rw [hss, srtI_len]
        rw [← hss] at hac5 HZS
        obtain ⟨a5, c5, hv5, hs5⟩ := hac5.sl RInt.ok (by decide) (G := fun _ => True) (fun _ h => h.elim) (fun _ _ => trivial)
        injection hv5 with hv5 hv6 hv7
        subst hv5 hv7
        rw [hsl] at hs5
        have HSS := Lib.hid (fun (wx : World) (k : All w5 wx) => hs5.keep RInt.ok k)
        have HSLN := Lib.hid hsl
        obtain ⟨nz, hnz⟩ : ∃ q, q = zs.length := ⟨_, rfl⟩
        have HNZ := Lib.hid hnz
        rw [← hnz] at HSS hzl ⊢
        have HW5 := Lib.hid hw5
        clear hss hsl hac5 hg5 hs5 hv6 hnz hwr hw5
        go_wp2_with fail
        go_loopw [55] (fun i wr => ∃ q : Nat, q ≤ nz ∧ i = .int .i64 q ∧ (ss.take q).find? (hitF s ts who p) = none ∧ All w5 wr) (fun i _ => nz - (intOf i).toNat)
        case atStart => exact ⟨0, Nat.zero_le _, rfl, rfl, Kept.refl _ _⟩
        case round =>
          obtain ⟨q, hq, rfl, hnone, hwr⟩ := hrel
          obtain ⟨wp, rfl⟩ : ∃ wp : World, wp = wr := ⟨_, rfl⟩
          have HNN := Lib.hid hnone
          clear hnone
          have hwp := HW5.out.trans hwr
          by_cases hlt2 : q < nz
          · obtain ⟨b, off, y, ha, -, r0, hyk, -, htk⟩ := (HSS.out _ hwr).atInt hlt2
            subst ha
            have HYK := Lib.hid hyk
            have HTK := Lib.hid htk
            clear hyk htk
            go_wp2_with fail
            refine (isMoment_any y _).mono ?_
            rintro e w' ⟨rfl, rfl⟩
            obtain ⟨mo2, hmo⟩ : ∃ z, z = decide (0 ≤ y ∧ y < 5761440) := ⟨_, rfl⟩
            have HM := Lib.hid hmo
            rw [← hmo]
            clear hmo
            obtain ⟨t1, t3⟩ := HCC.out _ (hw2.trans hwp)
            have p0 := cell_at (i := 0) t1 rfl
            have p1 := cell_at (i := 1) t1 rfl
            clear t1 t3
            have HLY := Lib.hid (HLC.out _ hwp y)
            obtain ⟨lv, hlv⟩ : ∃ z, z = levelF s ts who p y := ⟨_, rfl⟩
            have HLV := Lib.hid hlv
            rw [← hlv] at HLY
            clear hlv
            cases mo2 with
            | false =>
              have HN2 := Lib.hid (findI_take HNN.out HTK.out (show hitF s ts who p y = false from by rw [hitF, ← HM.out]; rfl))
              go_wp2_with fail
              go_roundw
              case rel => exact ⟨q + 1, by omega, by go_num, HN2.out, hwr⟩
              case measure => simp [intOf]; omega
            | true =>
              go_wp2_with fail
              refine (HLY.out).mono ?_
              rintro e w6 ⟨rfl, hw6⟩
              have hw6b := hwr.trans hw6
              by_cases hz : lv = 0
              · have hdz : (lv != 0) = false := by simpa using hz
                have HN2 := Lib.hid (findI_take HNN.out HTK.out (show hitF s ts who p y = false from by rw [hitF, ← HM.out, ← HLV.out, hz]; rfl))
                clear hz
                go_wp2_with fail
                go_roundw
                case rel => exact ⟨q + 1, by omega, by go_num, HN2.out, hw6b⟩
                case measure => simp [intOf]; omega
              · have hdz : (lv != 0) = true := by simpa using hz
                have HN2 := Lib.hid (findI_hit HNN.out HYK.out (show hitF s ts who p y = true from by rw [hitF, ← HM.out, ← HLV.out]; simpa using hz))
                clear hz
                go_wp2_with fail
                go_ret2
                exact ⟨by rw [HZS.out, HN2.out]; exact SinV.some, HK1.out.trans (hw2.trans (HW5.out.trans hw6b))⟩
          · have hdq : decide ((q : Int) < (nz : Int)) = false := by simp; omega
            have HN2 := Lib.hid (findI_end HNN.out (by have := HSLN.out; have := HNZ.out; omega))
            go_wp2_with fail
            go_ret2
            exact ⟨by rw [HZS.out, HN2.out]; exact SinV.none, HK1.out.trans (hw2.trans hwp)⟩
end Go.Proofs.YtjbaijgdkkccbaaGreatDoor

/- SinceOf. -/
namespace Go.Proofs.YtjbaijgdkkccbaaGreatDoor
open Go.RowKit


set_option maxRecDepth 100000 in
set_option maxHeartbeats 12800000 in
theorem sinceOf_any (a0 : Option Addr) (l0 c0 : Nat) (a1 : Option Addr) (l1 c1 : Nat) (a2 : Option Addr) (l2 c2 : Nat) (a3 : Option Addr) (l3 c3 : Nat) (a4 : Option Addr) (l4 c4 : Nat) (s : Set7) (al : Option Addr) (ll cl : Nat) (ts : List Raw) (who : ByteArray) (hwho : who.size ≤ 1000000) (p : Pair2) (w : World) (his : SetIs (fun _ => True) w a0 l0 a1 l1 a2 l2 a3 l3 a4 l4 s) (hst : Sl RRaw 7 (fun _ => True) w al ll ts) (hl : ll ≤ 100000) :
    Calls Tryz.prog 21 #[.agg #[.slice a0 l0 c0, .slice a1 l1 c1, .slice a2 l2 c2, .slice a3 l3 c3, .slice a4 l4 c4, .int .i64 s.due, .int .i64 s.reply], .slice al ll cl, .string who, .agg #[.string p.paper, .string p.person]] w fun e w' => SinW (sinceE s ts who p) e ∧ All w w' := by
  have hk1 : All w ((w.alloc (.cells #[.slice a0 l0 c0, .slice a1 l1 c1, .slice a2 l2 c2, .slice a3 l3 c3, .slice a4 l4 c4, .int .i64 s.due, .int .i64 s.reply] 31)).alloc (.cells #[.string p.paper, .string p.person] 39)) := (Kept.alloc _ _ _).then_alloc _
  have hb0 := heap_old (.cells #[.string p.paper, .string p.person] 39) (heap_at w (.cells #[.slice a0 l0 c0, .slice a1 l1 c1, .slice a2 l2 c2, .slice a3 l3 c3, .slice a4 l4 c4, .int .i64 s.due, .int .i64 s.reply] 31) _ rfl)
  have hb1 := heap_at (w.alloc (.cells #[.slice a0 l0 c0, .slice a1 l1 c1, .slice a2 l2 c2, .slice a3 l3 c3, .slice a4 l4 c4, .int .i64 s.due, .int .i64 s.reply] 31)) (.cells #[.string p.paper, .string p.person] 39) (w.heap.size + 1) (by simp)
  obtain ⟨sb, hsb⟩ : ∃ b, b = w.heap.size := ⟨_, rfl⟩
  obtain ⟨pb, hpb⟩ : ∃ b, b = w.heap.size + 1 := ⟨_, rfl⟩
  have HSB := Lib.hid hsb
  have HPB := Lib.hid (show pb = sb + 1 by omega)
  rw [← hsb] at hb0
  rw [← hpb] at hb1
  have HCC := Lib.hid (fun (wx : World) (k : All ((w.alloc (.cells #[.slice a0 l0 c0, .slice a1 l1 c1, .slice a2 l2 c2, .slice a3 l3 c3, .slice a4 l4 c4, .int .i64 s.due, .int .i64 s.reply] 31)).alloc (.cells #[.string p.paper, .string p.person] 39)) wx) => (⟨k.heap hb1 trivial, k.heap hb0 trivial⟩ : wx.heap[pb]? = _ ∧ wx.heap[sb]? = _))
  have HK1 := Lib.hid hk1
  have HSL := Lib.hid (fun (wx : World) (k : All ((w.alloc (.cells #[.slice a0 l0 c0, .slice a1 l1 c1, .slice a2 l2 c2, .slice a3 l3 c3, .slice a4 l4 c4, .int .i64 s.due, .int .i64 s.reply] 31)).alloc (.cells #[.string p.paper, .string p.person] 39)) wx) => hst.keep RRaw.ok (hk1.trans k))
  have HTL := Lib.hid hst.len
  have HLC := Lib.hid (fun (wx : World) (k : All ((w.alloc (.cells #[.slice a0 l0 c0, .slice a1 l1 c1, .slice a2 l2 c2, .slice a3 l3 c3, .slice a4 l4 c4, .int .i64 s.due, .int .i64 s.reply] 31)).alloc (.cells #[.string p.paper, .string p.person] 39)) wx) (tm : Int) => levelOf_any a0 l0 c0 a1 l1 c1 a2 l2 c2 a3 l3 c3 a4 l4 c4 s al ll cl ts who hwho p tm wx (his.keep (hk1.trans k)) (hst.keep RRaw.ok (hk1.trans k)) (by omega))
  obtain ⟨so, hso⟩ : ∃ z, z = sinceE s ts who p := ⟨_, rfl⟩
  have HSO := Lib.hid hso
  rw [← hso]
  obtain ⟨t1, t3⟩ := HCC.out _ (Kept.refl _ _)
  have p0 := cell_at (i := 0) t1 rfl
  have p1 := cell_at (i := 1) t1 rfl
  have e0 := cell_at (i := 0) t3 rfl
  have e1 := cell_at (i := 1) t3 rfl
  have e2 := cell_at (i := 2) t3 rfl
  have e3 := cell_at (i := 3) t3 rfl
  have e4 := cell_at (i := 4) t3 rfl
  have e5 := cell_at (i := 5) t3 rfl
  have e6 := cell_at (i := 6) t3 rfl
  clear t1 t3
  clear hso hsb hpb hb0 hb1 his hst hk1
  go_enter Tryz.func21, Tryz.ntmps21
  go_upto_region 1 with fail
  simp only [← HSB.out, ← HPB.out]
  generalize ((w.alloc (.cells #[.slice a0 l0 c0, .slice a1 l1 c1, .slice a2 l2 c2, .slice a3 l3 c3, .slice a4 l4 c4, .int .i64 s.due, .int .i64 s.reply] 31)).alloc (.cells #[.string p.paper, .string p.person] 39)) = w1 at *
  have hk3 : All w1 (w1.alloc (.cells #[.int .i64 0, .int .i64 s.reply] 3)) := Kept.alloc _ _ _
  have hac3 := Acc.lit2 (T := 3) w1.heap.size w1 0 s.reply (Nat.le_refl _)
  go_upto_region 2 with fail
  obtain ⟨mo, hmo⟩ : ∃ z, z = w1.heap.size := ⟨_, rfl⟩
  have HMO := Lib.hid hmo
  rw [← hmo] at hac3
  simp only [← HMO.out]
  have hmo2 : mo ≤ w1.heap.size := Nat.le_of_eq hmo
  clear hmo e0 e1 e2 e3 e4 e5 e6 p0 p1
  generalize w1.alloc (.cells #[.int .i64 0, .int .i64 s.reply] 3) = w3 at *
  have HAC := Lib.hid hac3
  clear hac3
  go_wp2_with fail
  go_loopw [10, 20] (fun o i wr => ∃ k : Nat, k ≤ ll ∧ i = .int .i64 k ∧ Acc RInt 1 3 (fun _ => False) mo wr o (0 :: s.reply :: (ts.take k).map (·.1.tm)) ∧ All w1 wr) (fun _ i _ => ll - (intOf i).toNat)
  case atStart => exact ⟨0, Nat.zero_le _, rfl, HAC.out, hk3⟩
  case round =>
    obtain ⟨k, hk, rfl, hacc, hwr⟩ := hrel
    obtain ⟨wo, rfl⟩ : ∃ wo : World, wo = wr := ⟨_, rfl⟩
    by_cases hlt : k < ll
    · obtain ⟨b, off, z, ha, -, r0, r1, r2, r3, r4, r5, r6, -, -, htk⟩ := (HSL.out _ hwr).atRaw hlt
      have HA := Lib.hid ha
      have HY := Lib.hid (show 0 :: s.reply :: (ts.take (k + 1)).map (·.1.tm) = (0 :: s.reply :: (ts.take k).map (·.1.tm)) ++ [z.1.tm] from by rw [htk]; simp)
      obtain ⟨os, hos⟩ : ∃ q : List Int, q = 0 :: s.reply :: (ts.take k).map (·.1.tm) := ⟨_, rfl⟩
      have hon : os.length ≤ k + 2 := by rw [hos]; have := List.length_take_le k ts; simp only [List.length_cons, List.length_map]; omega
      rw [← hos] at hacc HY
      have hko : All wo (wo.alloc (.cells #[.int .i64 z.1.no, .int .i64 z.1.tm, .string z.1.paper, .string z.1.person, .string z.1.by_, .bool z.1.done, .slice z.2.1 z.1.answers.length z.2.2] 73)) := Kept.alloc _ _ _
      have hblk := heap_at wo (.cells #[.int .i64 z.1.no, .int .i64 z.1.tm, .string z.1.paper, .string z.1.person, .string z.1.by_, .bool z.1.done, .slice z.2.1 z.1.answers.length z.2.2] 73) _ rfl
      obtain ⟨rb, hrb⟩ : ∃ q, q = wo.heap.size := ⟨_, rfl⟩
      have HRB := Lib.hid hrb
      rw [← hrb] at hblk
      have hac1 := hacc.keepAll RInt.ok hko
      have hwa := hwr.trans hko
      obtain ⟨oa, oc, rfl, hoc⟩ := hac1.form
      clear htk hacc hwr hko hrb hos
      subst ha
      go_upto_region 5 with fail
      simp only [← HRB.out]
      generalize wo.alloc (.cells #[.int .i64 z.1.no, .int .i64 z.1.tm, .string z.1.paper, .string z.1.person, .string z.1.by_, .bool z.1.done, .slice z.2.1 z.1.answers.length z.2.2] 73) = wa at *
      have u1 := cell_at (i := 1) hblk rfl
      have hsz := hwa.size
      clear hblk r0 r1 r2 r3 r4 r5 r6
      go_wp2_with (at_builtin; refine wp_append1 RInt.ok _ rfl _ _ 22 rfl mo 3 (.int .i64 0) 1 8 Tryz.underlying22 (by kernel_rfl) rfl (by decide) (fun _ => False) _ (os) rfl (hac1.keepAll RInt.ok (Kept.alloc _ _ _)) ⟨_, 0, none⟩ 1 [.int .i64 z.1.tm] rfl rfl (World.news_of_block (cs := #[.int .i64 z.1.tm]) (heap_at _ _ _ (by simp))) (by simp [Value.oneCell']) z.1.tm rfl (by omega) (by decide) (by simp at *; omega) ?_)
      intro p9 c9 w9 hacc9 hg9 _
      have hk9 := Lib.hid ((hwa.then_alloc _).grown hg9 (fun j hj => Or.inl (by have := (hac1.lt j hj).1; have := HMO.out; omega)))
      have hfin := Lib.hid hacc9
      clear hacc9 hg9 hac1 u1 hwa
      go_wp2_with fail
      go_roundw
      case rel => exact ⟨k + 1, by omega, by go_num, by rw [HY.out]; exact hfin.out, hk9.out⟩
      case measure => simp [intOf]; omega
    · have hdk : decide ((k : Int) < (ll : Int)) = false := by simp; omega
      have HE3 := Lib.hid (show 0 :: s.reply :: (ts.take k).map (·.1.tm) = momsE s ts from by rw [List.take_of_length_le (by have := HTL.out; omega)]; rfl)
      rw [HE3.out] at hacc
      obtain ⟨zs, hzs⟩ : ∃ q, q = momsE s ts := ⟨_, rfl⟩
      have HZS := Lib.hid (show so = (srtI zs).find? (hitF s ts who p) from by rw [HSO.out, hzs]; rfl)
      have hzl : zs.length ≤ 100002 := by rw [hzs, momsE]; simp only [List.length_cons, List.length_map]; have := HTL.out; omega
      rw [← hzs] at hacc
      clear hzs
      have HSO9 := Lib.hid (sortI_any _ zs wo hacc (by omega))
      have HLT := Lib.hid hacc.lt
      obtain ⟨oa, oc, rfl, -⟩ := hacc.form
      clear hacc
      go_wp2_with fail
      refine HSO9.out.mono ?_
      rintro e w5 ⟨rfl, hac5, hg5⟩
      have hw5 := hwr.grown hg5 (fun j hj => Or.inl (by have := (HLT.out j hj).1; have := HMO.out; omega))
      obtain ⟨ss, hss⟩ : ∃ q, q = srtI zs := ⟨_, rfl⟩
      have hsl : ss.length = zs.length := by rw [hss, srtI_len]
      rw [← hss] at hac5 HZS
      obtain ⟨a5, c5, hv5, hs5⟩ := hac5.sl RInt.ok (by decide) (G := fun _ => True) (fun _ h => h.elim) (fun _ _ => trivial)
      injection hv5 with hv5 hv6 hv7
      subst hv5 hv7
      rw [hsl] at hs5
      have HSS := Lib.hid (fun (wx : World) (k : All w5 wx) => hs5.keep RInt.ok k)
      have HSLN := Lib.hid hsl
      obtain ⟨nz, hnz⟩ : ∃ q, q = zs.length := ⟨_, rfl⟩
      have HNZ := Lib.hid hnz
      rw [← hnz] at HSS hzl ⊢
      have HW5 := Lib.hid hw5
      clear hss hsl hac5 hg5 hs5 hv6 hnz hwr hw5
      go_wp2_with fail
      go_loopw [34] (fun i wr => ∃ q : Nat, q ≤ nz ∧ i = .int .i64 q ∧ (ss.take q).find? (hitF s ts who p) = none ∧ All w5 wr) (fun i _ => nz - (intOf i).toNat)
      case atStart => exact ⟨0, Nat.zero_le _, rfl, rfl, Kept.refl _ _⟩
      case round =>
        obtain ⟨q, hq, rfl, hnone, hwr⟩ := hrel
        obtain ⟨wp, rfl⟩ : ∃ wp : World, wp = wr := ⟨_, rfl⟩
        have HNN := Lib.hid hnone
        clear hnone
        have hwp := HW5.out.trans hwr
        by_cases hlt2 : q < nz
        · obtain ⟨b, off, y, ha, -, r0, hyk, -, htk⟩ := (HSS.out _ hwr).atInt hlt2
          subst ha
          have HYK := Lib.hid hyk
          have HTK := Lib.hid htk
          clear hyk htk
          go_wp2_with fail
          refine (moment_any y _).mono ?_
          rintro e w' ⟨rfl, rfl⟩
          obtain ⟨mo2, hmo⟩ : ∃ z, z = decide (0 ≤ y ∧ y < 5761440) := ⟨_, rfl⟩
          have HM := Lib.hid hmo
          rw [← hmo]
          clear hmo
          obtain ⟨t1, t3⟩ := HCC.out _ hwp
          have p0 := cell_at (i := 0) t1 rfl
          have p1 := cell_at (i := 1) t1 rfl
          have e0 := cell_at (i := 0) t3 rfl
          have e1 := cell_at (i := 1) t3 rfl
          have e2 := cell_at (i := 2) t3 rfl
          have e3 := cell_at (i := 3) t3 rfl
          have e4 := cell_at (i := 4) t3 rfl
          have e5 := cell_at (i := 5) t3 rfl
          have e6 := cell_at (i := 6) t3 rfl
          clear t1 t3
          have HLY := Lib.hid (HLC.out _ hwp y)
          obtain ⟨lv, hlv⟩ : ∃ z, z = levelF s ts who p y := ⟨_, rfl⟩
          have HLV := Lib.hid hlv
          rw [← hlv] at HLY
          clear hlv
          cases mo2 with
          | false =>
            have HN2 := Lib.hid (findI_take HNN.out HTK.out (show hitF s ts who p y = false from by rw [hitF, ← HM.out]; rfl))
            go_wp2_with fail
            go_roundw
            case rel => exact ⟨q + 1, by omega, by go_num, HN2.out, hwr⟩
            case measure => simp [intOf]; omega
          | true =>
            go_wp2_with fail
            refine (HLY.out).mono ?_
            rintro e w6 ⟨rfl, hw6⟩
            have hw6b := hwr.trans hw6
            clear e0 e1 e2 e3 e4 e5 e6 p0 p1
            by_cases hz : lv = 0
            · have hdz : (lv != 0) = false := by simpa using hz
              have HN2 := Lib.hid (findI_take HNN.out HTK.out (show hitF s ts who p y = false from by rw [hitF, ← HM.out, ← HLV.out, hz]; rfl))
              clear hz
              go_wp2_with fail
              go_roundw
              case rel => exact ⟨q + 1, by omega, by go_num, HN2.out, hw6b⟩
              case measure => simp [intOf]; omega
            · have hdz : (lv != 0) = true := by simpa using hz
              have HN2 := Lib.hid (findI_hit HNN.out HYK.out (show hitF s ts who p y = true from by rw [hitF, ← HM.out, ← HLV.out]; simpa using hz))
              clear hz
              go_wp2_with fail
              go_ret2
              exact ⟨by rw [HZS.out, HN2.out]; rfl, HK1.out.trans (HW5.out.trans hw6b)⟩
        · have hdq : decide ((q : Int) < (nz : Int)) = false := by simp; omega
          have HN2 := Lib.hid (findI_end HNN.out (by have := HSLN.out; have := HNZ.out; omega))
          go_wp2_with fail
          go_ret2
          exact ⟨by rw [HZS.out, HN2.out]; rfl, HK1.out.trans hwp⟩
end Go.Proofs.YtjbaijgdkkccbaaGreatDoor
