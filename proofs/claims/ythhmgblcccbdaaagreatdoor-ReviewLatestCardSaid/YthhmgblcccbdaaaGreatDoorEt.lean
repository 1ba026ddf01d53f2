/- What the library's tables hold, strconv's too. -/
import Derived.Test.YthhmgblcccbdaaaGreatDoorGa
import Derived.Test.YthhmgblcccbdaaaGreatDoorNb
import Derived.Test.YthhmgblcccbdaaaGreatDoorBv
import Derived.Test.YthhmgblcccbdaaaGreatDoorFr
import Derived.Test.YthhmgblcccbdaaaGreatDoorSd
import Derived.Test.YthhmgblcccbdaaaGreatDoorSj
namespace Go.Proofs.YthhmgblcccbdaaaGreatDoor
open Go.RowKit

structure GlobP (w : World) : Prop where
  g : Glob w
  p : Pow w
theorem GlobP.keep {w w' : World} (h : GlobP w) (k : All w w') : GlobP w' := ⟨h.g.keep k, h.p.keep k⟩
end Go.Proofs.YthhmgblcccbdaaaGreatDoor

/- EqualFunc of reviews: true of what reads alike, where SameReview is. -/
namespace Go.Proofs.YthhmgblcccbdaaaGreatDoor
open Go.RowKit

/-- SameReview is true of two reviews of the same data. -/
def SameR : Prop := ∀ (x : Rev) (aa : Option Addr) (ac : Nat) (ba : Option Addr) (bc : Nat) (w : World), RevSmall x → Sl RAns 4 (fun _ => True) w aa x.answers.length x.answers → Sl RAns 4 (fun _ => True) w ba x.answers.length x.answers → GlobP w →
  Calls Tryz.prog 16 #[.agg (revC x aa ac), .agg (revC x ba bc)] w fun e w' => e = .returned (.bool true) ∧ All w w'

end Go.Proofs.YthhmgblcccbdaaaGreatDoor

/- ReviewOrder, SameReview: 0 and true of two reviews of the same data, where AnswerLines gives the same for the same answers. -/
namespace Go.Proofs.YthhmgblcccbdaaaGreatDoor
open Go.RowKit

/-- AnswerLines reads answers and nothing else. -/
def LinesH (f : List Ans4 → ByteArray) : Prop := ∀ (a : Option Addr) (l c : Nat) (ys : List Ans4) (w : World), Sl RAns 4 (fun _ => True) w a l ys → l ≤ 1000 → GlobP w →
  Calls Tryz.prog 97 #[.slice a l c] w fun e w' => e = .returned (.string (f ys)) ∧ All w w'
theorem cmpB_self (a : ByteArray) : Lib.compareBytes a.data.toList a.data.toList = 0 := (cmp_zero _ _).2 rfl
theorem cmpS_self : ∀ l : List ByteArray, cmpS l l = 0
  | [] => rfl
  | a :: l => by rw [cmpS, cmpB_self, if_neg (by simp)]; exact cmpS_self l

set_option maxRecDepth 100000 in
set_option maxHeartbeats 3200000 in
theorem order_same {f : List Ans4 → ByteArray} (hL : LinesH f) (x : Rev) (aa : Option Addr) (ac : Nat) (ba : Option Addr) (bc : Nat) (w : World) (hx : RevSmall x) (ha : Sl RAns 4 (fun _ => True) w aa x.answers.length x.answers) (hb : Sl RAns 4 (fun _ => True) w ba x.answers.length x.answers) (hg : GlobP w) :
    Calls Tryz.prog 54 #[.agg (revC x aa ac), .agg (revC x ba bc)] w fun e w' => e = .returned (.int .i64 0) ∧ All w w' := by
  have hk : All w ((w.alloc (.cells (revC x aa ac) 45)).alloc (.cells (revC x ba bc) 45)) := (Kept.alloc _ _ _).then_alloc _
  have hp1 := heap_old (.cells (revC x ba bc) 45) (heap_at w (.cells (revC x aa ac) 45) _ rfl)
  have hp2 := heap_at (w.alloc (.cells (revC x aa ac) 45)) (.cells (revC x ba bc) 45) (w.heap.size + 1) (by simp)
  obtain ⟨k1, hk1⟩ : ∃ k, k = w.heap.size := ⟨_, rfl⟩
  obtain ⟨k2, hk2⟩ : ∃ k, k = w.heap.size + 1 := ⟨_, rfl⟩
  have HK1 := Lib.hid hk1
  have HK2 := Lib.hid hk2
  rw [← hk1] at hp1
  rw [← hk2] at hp2
  have HC := Lib.hid (show ∀ wx, All ((w.alloc (.cells (revC x aa ac) 45)).alloc (.cells (revC x ba bc) 45)) wx → wx.cell? ⟨k1, 0, none⟩ = some (.int .i64 x.no) ∧ wx.cell? ⟨k1, 1, none⟩ = some (.int .i64 x.tm) ∧ wx.cell? ⟨k1, 2, none⟩ = some (.string x.paper) ∧ wx.cell? ⟨k1, 3, none⟩ = some (.string x.person) ∧ wx.cell? ⟨k1, 4, none⟩ = some (.string x.by_) ∧ wx.cell? ⟨k1, 5, none⟩ = some (.bool x.done) ∧ wx.cell? ⟨k1, 6, none⟩ = some (.slice aa x.answers.length ac) ∧ wx.cell? ⟨k2, 0, none⟩ = some (.int .i64 x.no) ∧ wx.cell? ⟨k2, 1, none⟩ = some (.int .i64 x.tm) ∧ wx.cell? ⟨k2, 2, none⟩ = some (.string x.paper) ∧ wx.cell? ⟨k2, 3, none⟩ = some (.string x.person) ∧ wx.cell? ⟨k2, 4, none⟩ = some (.string x.by_) ∧ wx.cell? ⟨k2, 5, none⟩ = some (.bool x.done) ∧ wx.cell? ⟨k2, 6, none⟩ = some (.slice ba x.answers.length bc) from fun wx k => ⟨cell_at (i := 0) (k.heap hp1 trivial) rfl, cell_at (i := 1) (k.heap hp1 trivial) rfl, cell_at (i := 2) (k.heap hp1 trivial) rfl, cell_at (i := 3) (k.heap hp1 trivial) rfl, cell_at (i := 4) (k.heap hp1 trivial) rfl, cell_at (i := 5) (k.heap hp1 trivial) rfl, cell_at (i := 6) (k.heap hp1 trivial) rfl, cell_at (i := 0) (k.heap hp2 trivial) rfl, cell_at (i := 1) (k.heap hp2 trivial) rfl, cell_at (i := 2) (k.heap hp2 trivial) rfl, cell_at (i := 3) (k.heap hp2 trivial) rfl, cell_at (i := 4) (k.heap hp2 trivial) rfl, cell_at (i := 5) (k.heap hp2 trivial) rfl, cell_at (i := 6) (k.heap hp2 trivial) rfl⟩)
  have HA := Lib.hid (ha.keep RAns.ok hk)
  have HB := Lib.hid (hb.keep RAns.ok hk)
  have HG := Lib.hid (hg.keep hk)
  have HKW := Lib.hid hk
  obtain ⟨hz1, hz2, hz3, hz4⟩ := hx
  clear hk hp1 hp2 ha hb hg hk1 hk2
  go_enter Tryz.func54, Tryz.ntmps54
  go_upto_region 1 with fail
  simp only [← HK2.out]
  simp only [← HK1.out]
  generalize (w.alloc (.cells (revC x aa ac) 45)).alloc (.cells (revC x ba bc) 45) = w1 at *
  obtain ⟨r0, r1, r2, r3, r4, r5, r6, s0, s1, s2, s3, s4, s5, s6⟩ := HC.out _ (Kept.refl _ _)
  have hz9 : ∀ z ∈ [x.paper, x.person, x.by_], z.size ≤ 1000000 := by
    intro z hz
    simp only [List.mem_cons, List.not_mem_nil, or_false] at hz
    rcases hz with rfl | rfl | rfl <;> assumption
  have h31 := heap_old (.cells #[.string x.paper, .string x.person, .string x.by_] 9) (heap_at w1 (.cells #[.string x.paper, .string x.person, .string x.by_] 9) _ rfl)
  have h32 := heap_at (w1.alloc (.cells #[.string x.paper, .string x.person, .string x.by_] 9)) (.cells #[.string x.paper, .string x.person, .string x.by_] 9) (w1.heap.size + 1) (by simp)
  have HCM := Lib.hid (fun c1 c2 => compareS_any (some ⟨w1.heap.size, 0, none⟩) 3 c1 (some ⟨w1.heap.size + 1, 0, none⟩) c2 [x.paper, x.person, x.by_] [x.paper, x.person, x.by_] _ (Sl.lit_strs' [x.paper, x.person, x.by_] h31 rfl trivial hz9) (Sl.lit_strs' [x.paper, x.person, x.by_] h32 rfl trivial hz9) (by omega))
  have hlk1 := lt_of_cell r0
  have hlk2 := lt_of_cell s0
  clear h31 h32 hz9
  go_wp2_with fail
  refine (HCM.out _ _).mono ?_
  rintro e w2 ⟨rfl, hh⟩
  have hw2 : All w1 w2 := by rw [← hh]; exact (Kept.alloc _ _ _).then_alloc _
  rw [cmpS_self]
  clear hh r0 r1 r2 r3 r4 r5 r6 s0 s1 s2 s3 s4 s5 s6
  obtain ⟨r0, r1, r2, r3, r4, r5, r6, s0, s1, s2, s3, s4, s5, s6⟩ := HC.out _ hw2
  go_wp2_with fail
  refine wp_region_inv 7 (by kernel_rfl) (by kernel_rfl) (by kernel_rfl) (fun _ wx => All w2 wx)
    (DL [QIs (Value.pointer (some ⟨k1, 6, none⟩)), QIs (Value.slice aa x.answers.length ac), QIs (Value.string (f x.answers)), QIs (Value.pointer (some ⟨k2, 6, none⟩)), QIs (Value.slice ba x.answers.length bc), QIs (Value.string (f x.answers)), QIs (Value.int .i64 0)]) All
    (DL.keep (by simp only [List.forall_mem_cons, List.not_mem_nil, false_implies, implies_true, and_true]; exact ⟨QIs.stays _, QIs.stays _, QIs.stays _, QIs.stays _, QIs.stays _, QIs.stays _, QIs.stays _⟩)) ?_ ?_ ?_
  · exact Kept.drew _ _
  · intro i o t ho hd hi k' a' wx hk' hg hdf hts hoth hdeps
    have hszx := hg.size
    have hz : i = 0 ∨ i = 1 ∨ i = 2 ∨ i = 3 ∨ i = 4 ∨ i = 5 ∨ i = 6 := by omega
    rcases hz with rfl | rfl | rfl | rfl | rfl | rfl | rfl
    · obtain rfl := Option.some.inj ho
      obtain rfl := Option.some.inj hd
      have e0 : a'.tmps.getD 2 undef = Value.pointer (some ⟨k1, 0, none⟩) := tmp_of ((hoth 2 (by decide)).trans rfl)
      clear hoth hdeps hdf hts ho
      refine wp_via (fun K' hK => ?_)
      have HK := Lib.hid hK
      clear hK
      go_simp
      exact HK.out _ _ ⟨_, rfl, hg, Kept.refl _ _, rfl⟩
    · obtain rfl := Option.some.inj ho
      obtain rfl := Option.some.inj hd
      have e0 : a'.tmps.getD 47 undef = Value.pointer (some ⟨k1, 6, none⟩) := hdeps 0 (by decide) 47 rfl
      obtain ⟨y0, y1, y2, y3, y4, y5, y6, z0, z1, z2, z3, z4, z5, z6⟩ := HC.out wx (hw2.trans hg)
      clear hoth hdeps hdf hts ho
      refine wp_via (fun K' hK => ?_)
      have HK := Lib.hid hK
      clear hK
      go_simp
      exact HK.out _ _ ⟨_, rfl, hg, Kept.refl _ _, rfl⟩
    · obtain rfl := Option.some.inj ho
      obtain rfl := Option.some.inj hd
      have e0 : a'.tmps.getD 48 undef = Value.slice aa x.answers.length ac := hdeps 1 (by decide) 48 rfl
      clear hoth hdeps hdf hts ho
      refine wp_via (fun K' hK => ?_)
      have HK := Lib.hid hK
      clear hK
      go_simp
      refine (hL aa x.answers.length ac x.answers wx (HA.out.keep RAns.ok (hw2.trans hg)) (by omega) (HG.out.keep (hw2.trans hg))).mono ?_
      rintro e w4 ⟨rfl, hw4⟩
      exact HK.out _ _ ⟨_, rfl, hg.trans hw4, hw4, rfl⟩
    · obtain rfl := Option.some.inj ho
      obtain rfl := Option.some.inj hd
      have e0 : a'.tmps.getD 3 undef = Value.pointer (some ⟨k2, 0, none⟩) := tmp_of ((hoth 3 (by decide)).trans rfl)
      clear hoth hdeps hdf hts ho
      refine wp_via (fun K' hK => ?_)
      have HK := Lib.hid hK
      clear hK
      go_simp
      exact HK.out _ _ ⟨_, rfl, hg, Kept.refl _ _, rfl⟩
    · obtain rfl := Option.some.inj ho
      obtain rfl := Option.some.inj hd
      have e0 : a'.tmps.getD 50 undef = Value.pointer (some ⟨k2, 6, none⟩) := hdeps 3 (by decide) 50 rfl
      obtain ⟨y0, y1, y2, y3, y4, y5, y6, z0, z1, z2, z3, z4, z5, z6⟩ := HC.out wx (hw2.trans hg)
      clear hoth hdeps hdf hts ho
      refine wp_via (fun K' hK => ?_)
      have HK := Lib.hid hK
      clear hK
      go_simp
      exact HK.out _ _ ⟨_, rfl, hg, Kept.refl _ _, rfl⟩
    · obtain rfl := Option.some.inj ho
      obtain rfl := Option.some.inj hd
      have e0 : a'.tmps.getD 51 undef = Value.slice ba x.answers.length bc := hdeps 4 (by decide) 51 rfl
      clear hoth hdeps hdf hts ho
      refine wp_via (fun K' hK => ?_)
      have HK := Lib.hid hK
      clear hK
      go_simp
      refine (hL ba x.answers.length bc x.answers wx (HB.out.keep RAns.ok (hw2.trans hg)) (by omega) (HG.out.keep (hw2.trans hg))).mono ?_
      rintro e w4 ⟨rfl, hw4⟩
      exact HK.out _ _ ⟨_, rfl, hg.trans hw4, hw4, rfl⟩
    · obtain rfl := Option.some.inj ho
      obtain rfl := Option.some.inj hd
      have e0 : a'.tmps.getD 49 undef = Value.string (f x.answers) := hdeps 2 (by decide) 49 rfl
      have e1 : a'.tmps.getD 52 undef = Value.string (f x.answers) := hdeps 5 (by decide) 52 rfl
      clear hoth hdeps hdf hts ho
      refine wp_via (fun K' hK => ?_)
      have HK := Lib.hid hK
      clear hK
      go_simp
      refine (Tryz.strings_Compare _ _ _).mono ?_
      rintro e w4 ⟨rfl, rfl⟩
      rw [cmpB_self]
      exact HK.out _ _ ⟨_, rfl, hg, Kept.refl _ _, rfl⟩
  · intro wx f9 hg hd
    have e9 : f9 53 = Value.int .i64 0 := hd 6 53 (by decide) rfl
    rw [show dsts _ 7 = [47, 48, 49, 50, 51, 52, 53] from by kernel_rfl]
    simp only [List.map_cons, List.map_nil, puts, Act.put, e9, List.drop_succ_cons, List.drop_zero]
    clear hd e9
    generalize f9 47 = f47
    generalize f9 48 = f48
    generalize f9 49 = f49
    generalize f9 50 = f50
    generalize f9 51 = f51
    generalize f9 52 = f52
    simp only [List.setIfInBounds_toArray, List.set_cons_zero, List.set_cons_succ]
    go_wp2_with fail
    go_ret
    exact ⟨rfl, HKW.out.trans (hw2.trans hg)⟩

set_option maxRecDepth 100000 in
set_option maxHeartbeats 3200000 in
theorem sameR_any : SameR := by
  intro x aa ac ba bc w hx ha hb hg
  have hk : All w ((w.alloc (.cells (revC x aa ac) 45)).alloc (.cells (revC x ba bc) 45)) := (Kept.alloc _ _ _).then_alloc _
  have hp1 := heap_old (.cells (revC x ba bc) 45) (heap_at w (.cells (revC x aa ac) 45) _ rfl)
  have hp2 := heap_at (w.alloc (.cells (revC x aa ac) 45)) (.cells (revC x ba bc) 45) (w.heap.size + 1) (by simp)
  have HO := Lib.hid (order_same (f := linesF) (fun a l c ys w h1 h2 h3 => answerLines_any a l c ys w h1 h2 h3.p) x aa ac ba bc _ hx (ha.keep RAns.ok hk) (hb.keep RAns.ok hk) (hg.keep hk))
  have c0 := cell_at (i := 0) hp1 rfl
  have c1 := cell_at (i := 1) hp1 rfl
  have c2 := cell_at (i := 2) hp1 rfl
  have c3 := cell_at (i := 3) hp1 rfl
  have c4 := cell_at (i := 4) hp1 rfl
  have c5 := cell_at (i := 5) hp1 rfl
  have c6 := cell_at (i := 6) hp1 rfl
  have d0 := cell_at (i := 0) hp2 rfl
  have d1 := cell_at (i := 1) hp2 rfl
  have d2 := cell_at (i := 2) hp2 rfl
  have d3 := cell_at (i := 3) hp2 rfl
  have d4 := cell_at (i := 4) hp2 rfl
  have d5 := cell_at (i := 5) hp2 rfl
  have d6 := cell_at (i := 6) hp2 rfl
  have HKW := Lib.hid hk
  clear hk hp1 hp2 ha hb hg hx
  go_enter Tryz.func16, Tryz.ntmps16
  go_wp2_with fail
  refine HO.out.mono ?_
  rintro e w2 ⟨rfl, hw2⟩
  go_wp2_with fail
  go_ret
  exact ⟨rfl, HKW.out.trans hw2⟩
end Go.Proofs.YthhmgblcccbdaaaGreatDoor
