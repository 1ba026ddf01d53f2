/- The last review of a pair in a book. -/
import Derived.Test.YtjbaijgdkkccbaaGreatDoorRq
import Derived.Test.YtjbaijgdkkccbaaGreatDoorZo
namespace Go.Proofs.YtjbaijgdkkccbaaGreatDoor
open Go.RowKit Go.Shelf
attribute [local go_sem] Oper.semAt_some

/-- Whether a review is up to a moment and, if that is asked, done. -/
def hitR (tm : Int) (dn : Bool) (y : Raw) : Prop := y.1.tm ≤ tm ∧ (y.1.done = true ∨ dn = false)
/-- The last such review of a pair. -/
def lastO (ts : List Raw) (p : K2) (tm : Int) (dn : Bool) : Option Raw := (bookF ts p).reverse.find? (fun y => decide (y.1.tm ≤ tm) && (y.1.done || !dn))
theorem hitR_iff {tm : Int} {dn : Bool} {y : Raw} : (decide (y.1.tm ≤ tm) && (y.1.done || !dn)) = true ↔ hitR tm dn y := by
  unfold hitR
  rw [Bool.and_eq_true, Bool.or_eq_true, decide_eq_true_iff]
  simp
theorem lastO_none {ts : List Raw} {p : K2} {tm : Int} {dn : Bool} (h : ∀ y ∈ bkTo (bookF ts p) (bookF ts p).length, ¬ hitR tm dn y.2) : lastO ts p tm dn = none := by
  rw [lastO, List.find?_eq_none]
  intro y hy
  rw [← bkTo_all] at hy
  obtain ⟨z, hz, rfl⟩ := List.mem_map.1 hy
  exact fun e => h z hz (hitR_iff.1 e)
theorem lastO_hit {ts : List Raw} {p : K2} {tm : Int} {dn : Bool} {k : Nat} (hk : k < (bookF ts p).length) (h : ∀ y ∈ bkTo (bookF ts p) k, ¬ hitR tm dn y.2) (hh : hitR tm dn (bkAt (bookF ts p) k).2) : lastO ts p tm dn = some (bkAt (bookF ts p) k).2 := by
  have h1 : (bookF ts p).reverse.take (k + 1) = (bkTo (bookF ts p) k).map (·.2) ++ [(bkAt (bookF ts p) k).2] := by rw [← bkTo_take _ (show k + 1 ≤ _ by omega), bkTo_succ, List.map_append]; rfl
  have h2 : ((bkTo (bookF ts p) k).map (·.2)).find? (fun y => decide (y.1.tm ≤ tm) && (y.1.done || !dn)) = none := List.find?_eq_none.2 (fun y hy => by obtain ⟨z, hz, rfl⟩ := List.mem_map.1 hy; exact fun e => h z hz (hitR_iff.1 e))
  rw [lastO, ← List.take_append_drop (k + 1) (bookF ts p).reverse, List.find?_append, h1, List.find?_append, h2, List.find?_cons, hitR_iff.2 hh]
  rfl
/-- A block of cells lies as it lay. -/
theorem blk_own {β : Type} (B : Nat) (t : TypeId) (f : β → Array Value) : Own (fun s W => W.heap[B]? = some (.cells (f s) t (0, 0))) := fun s X Y row hs hg hrow =>
  (hg.block B (Array.getElem?_eq_some_iff.1 hs).1 (fun e' => by obtain ⟨o, ho, hc⟩ := hrow B e'.symm; rw [show X.heap[B]? = _ from hs] at ho; cases ho; cases hc)).trans hs
theorem blk_alloc {W : World} {B : Nat} {c : Array Value} {t : TypeId} (h : W.heap[B]? = some (.cells c t (0, 0))) (o : Obj) : (W.alloc o).heap[B]? = some (.cells c t (0, 0)) := heap_old o h
theorem blk_lt {W : World} {B : Nat} {o : Obj} (h : W.heap[B]? = some o) : B < W.heap.size := (Array.getElem?_eq_some_iff.1 h).1

set_option maxRecDepth 100000 in
set_option maxHeartbeats 12800000 in
theorem last_any (kb : Nat) (cs : Array Value) (hcs : cs.size = 7) (ts : List Raw) (hts : ts.length ≤ 1000000) (p : K2) (hp : okK p) (tm : Int) (dn : Bool) (w : World) (hbk : BookIs w kb cs ts) :
    Calls Tryz.prog 82 #[.pointer (some ⟨kb, 0, none⟩), .agg #[.string p.1, .string p.2], .int .i64 tm, .bool dn] w fun e w' => e = .returned (.tuple #[.agg (encRaw ((lastO ts p tm dn).getD raw0)).toArray, .bool (lastO ts p tm dn).isSome]) ∧ All w w' := by
  obtain ⟨mb, B, n, vs, hkb, hrow⟩ := hbk
  obtain ⟨xs, hxs⟩ : ∃ xs, xs = bookF ts p := ⟨_, rfl⟩
  have HXS := Lib.hid hxs
  have hxl : xs.length ≤ 1000000 := by have := bookF_len ts p; rw [hxs]; omega
  have hk1 : All w (((((w.alloc (.cells #[.string p.1, .string p.2] 39)).alloc (.cells #[.int .i64 tm] 3)).alloc (.cells #[.bool dn] 4)).alloc (.cells #[.int .i64 0, .int .i64 0, .string ⟨#[]⟩, .string ⟨#[]⟩, .string ⟨#[]⟩, .bool false, .slice none 0 0] 73)).alloc (.cells #[.bool false] 4)) := ((((Kept.alloc _ _ _).then_alloc _).then_alloc _).then_alloc _).then_alloc _
  obtain ⟨pb, hpb⟩ : ∃ k, k = w.heap.size := ⟨_, rfl⟩
  obtain ⟨tb, htb⟩ : ∃ k, k = w.heap.size + 1 := ⟨_, rfl⟩
  obtain ⟨db, hdb⟩ : ∃ k, k = w.heap.size + 2 := ⟨_, rfl⟩
  obtain ⟨rb, hrb⟩ : ∃ k, k = w.heap.size + 3 := ⟨_, rfl⟩
  obtain ⟨fb, hfb⟩ : ∃ k, k = w.heap.size + 4 := ⟨_, rfl⟩
  have bP : (((((w.alloc (.cells #[.string p.1, .string p.2] 39)).alloc (.cells #[.int .i64 tm] 3)).alloc (.cells #[.bool dn] 4)).alloc (.cells #[.int .i64 0, .int .i64 0, .string ⟨#[]⟩, .string ⟨#[]⟩, .string ⟨#[]⟩, .bool false, .slice none 0 0] 73)).alloc (.cells #[.bool false] 4)).heap[pb]? = some (.cells #[.string p.1, .string p.2] 39 (0, 0)) := heap_old _ (heap_old _ (heap_old _ (heap_old _ (heap_at w (.cells #[.string p.1, .string p.2] 39) pb (by simp [hpb])))))
  have bT : (((((w.alloc (.cells #[.string p.1, .string p.2] 39)).alloc (.cells #[.int .i64 tm] 3)).alloc (.cells #[.bool dn] 4)).alloc (.cells #[.int .i64 0, .int .i64 0, .string ⟨#[]⟩, .string ⟨#[]⟩, .string ⟨#[]⟩, .bool false, .slice none 0 0] 73)).alloc (.cells #[.bool false] 4)).heap[tb]? = some (.cells #[.int .i64 tm] 3 (0, 0)) := heap_old _ (heap_old _ (heap_old _ (heap_at _ (.cells #[.int .i64 tm] 3) tb (by simp [htb]))))
  have bD : (((((w.alloc (.cells #[.string p.1, .string p.2] 39)).alloc (.cells #[.int .i64 tm] 3)).alloc (.cells #[.bool dn] 4)).alloc (.cells #[.int .i64 0, .int .i64 0, .string ⟨#[]⟩, .string ⟨#[]⟩, .string ⟨#[]⟩, .bool false, .slice none 0 0] 73)).alloc (.cells #[.bool false] 4)).heap[db]? = some (.cells #[.bool dn] 4 (0, 0)) := heap_old _ (heap_old _ (heap_at _ (.cells #[.bool dn] 4) db (by simp [hdb])))
  have bR : (((((w.alloc (.cells #[.string p.1, .string p.2] 39)).alloc (.cells #[.int .i64 tm] 3)).alloc (.cells #[.bool dn] 4)).alloc (.cells #[.int .i64 0, .int .i64 0, .string ⟨#[]⟩, .string ⟨#[]⟩, .string ⟨#[]⟩, .bool false, .slice none 0 0] 73)).alloc (.cells #[.bool false] 4)).heap[rb]? = some (.cells #[.int .i64 0, .int .i64 0, .string ⟨#[]⟩, .string ⟨#[]⟩, .string ⟨#[]⟩, .bool false, .slice none 0 0] 73 (0, 0)) := heap_old _ (heap_at _ (.cells #[.int .i64 0, .int .i64 0, .string ⟨#[]⟩, .string ⟨#[]⟩, .string ⟨#[]⟩, .bool false, .slice none 0 0] 73) rb (by simp [hrb]))
  have bF : (((((w.alloc (.cells #[.string p.1, .string p.2] 39)).alloc (.cells #[.int .i64 tm] 3)).alloc (.cells #[.bool dn] 4)).alloc (.cells #[.int .i64 0, .int .i64 0, .string ⟨#[]⟩, .string ⟨#[]⟩, .string ⟨#[]⟩, .bool false, .slice none 0 0] 73)).alloc (.cells #[.bool false] 4)).heap[fb]? = some (.cells #[.bool false] 4 (0, 0)) := heap_at _ (.cells #[.bool false] 4) fb (by simp [hfb])
  have hsz : (((((w.alloc (.cells #[.string p.1, .string p.2] 39)).alloc (.cells #[.int .i64 tm] 3)).alloc (.cells #[.bool dn] 4)).alloc (.cells #[.int .i64 0, .int .i64 0, .string ⟨#[]⟩, .string ⟨#[]⟩, .string ⟨#[]⟩, .bool false, .slice none 0 0] 73)).alloc (.cells #[.bool false] 4)).heap.size = w.heap.size + 5 := by simp
  have HPB := Lib.hid hpb
  have HTB := Lib.hid (show tb = pb + 1 by omega)
  have HDB := Lib.hid (show db = tb + 1 by omega)
  have HRB := Lib.hid (show rb = db + 1 by omega)
  have HFB := Lib.hid (show fb = rb + 1 by omega)
  have hord : w.heap.size ≤ pb ∧ pb < tb ∧ tb < db ∧ db < rb ∧ rb < fb ∧ fb + 1 = w.heap.size + 5 := by omega
  have hkbw := blk_lt hkb
  have bK := hk1.heap hkb trivial
  have hrow1 := hrow.keep flatRaw hk1
  clear hpb htb hdb hrb hfb hkb hrow hxs
  refine (callsIn_wide (n := 6)).1 (callsIn_of_wp_marks Tryz.func82 rfl trivial ((wpIn_wide (n := 6)).2 ?_) rfl)
  simp only [Tryz.ntmps82, List.size_toArray, List.length_cons, List.length_nil, Nat.reduceAdd, Nat.reduceSub, Array.replicate_succ, Array.replicate_zero, List.push_toArray, List.append_toArray, List.nil_append, List.cons_append]
  go_upto_region 1 with fail
  simp only [← HPB.out]
  simp only [← HTB.out]
  simp only [← HDB.out]
  simp only [← HRB.out]
  simp only [← HFB.out]
  generalize (((((w.alloc (.cells #[.string p.1, .string p.2] 39)).alloc (.cells #[.int .i64 tm] 3)).alloc (.cells #[.bool dn] 4)).alloc (.cells #[.int .i64 0, .int .i64 0, .string ⟨#[]⟩, .string ⟨#[]⟩, .string ⟨#[]⟩, .bool false, .slice none 0 0] 73)).alloc (.cells #[.bool false] 4)) = w1 at *
  have HBLK := Lib.hid (fun (wx : World) (k : All w1 wx) => (⟨k.heap bP trivial, k.heap bT trivial, k.heap bD trivial, k.heap bR trivial, k.heap bF trivial, k.heap bK trivial⟩ : wx.heap[pb]? = _ ∧ wx.heap[tb]? = _ ∧ wx.heap[db]? = _ ∧ wx.heap[rb]? = _ ∧ wx.heap[fb]? = _ ∧ wx.heap[kb]? = _))
  have HROW := Lib.hid (fun (wx : World) (k : All w1 wx) => hrow1.keep flatRaw k)
  have HLK := Lib.hid (fun (wx : World) (k : All w1 wx) => (show (Instr.lookup 103 (.map (some mb)) (.agg #[.string p.1, .string p.2]) false).run Tryz.prog wx = .ok (vs p) wx from RowK.look (hrow1.keep flatRaw k) isK2P Tryz.underlying103 (Tryz.zeroValue32 wx) hp))
  have HK1 := Lib.hid hk1
  have HSZ := Lib.hid hsz
  clear bP bT bD bR bF bK hrow1 hk1 hsz
  refine wp_region_inv 6 (by kernel_rfl) (by kernel_rfl) (by kernel_rfl) (fun _ wx => All w1 wx)
    (DL [QIs ((Value.pointer (some ⟨kb, 0, none⟩))), QIs ((Value.pointer (some ⟨kb, 0, none⟩))), QIs ((Value.pointer (some ⟨kb, 7, none⟩))), QIs (.map (some mb)), QIs (.agg #[.string p.1, .string p.2]), QIs (vs p)]) All
    (DL.keep (by simp only [List.forall_mem_cons, List.not_mem_nil, false_implies, implies_true, and_true]; exact ⟨QIs.stays _, QIs.stays _, QIs.stays _, QIs.stays _, QIs.stays _, QIs.stays _⟩)) ?_ ?_ ?_
  · exact Kept.drew _ _
  · intro i o t ho hd hi k' a' wx hk' hg hdf hts hoth hdeps
    have hszx := hg.size
    have hz : i = 0 ∨ i = 1 ∨ i = 2 ∨ i = 3 ∨ i = 4 ∨ i = 5 := by omega
    rcases hz with rfl | rfl | rfl | rfl | rfl | rfl
    · obtain rfl := Option.some.inj ho
      obtain rfl := Option.some.inj hd
      have e0 : a'.tmps.getD 0 undef = (Value.pointer (some ⟨kb, 0, none⟩)) := tmp_of ((hoth 0 (by decide)).trans rfl)
      clear hoth hdeps hdf hts ho
      refine wp_via (fun K' hK => ?_)
      have HK := Lib.hid hK
      clear hK
      go_simp
      exact HK.out _ _ ⟨_, rfl, hg, Kept.refl _ _, rfl⟩
    · obtain rfl := Option.some.inj ho
      obtain rfl := Option.some.inj hd
      have e0 : a'.tmps.getD 12 undef = (Value.pointer (some ⟨kb, 0, none⟩)) := hdeps 0 (by decide) 12 rfl
      clear hoth hdeps hdf hts ho
      refine wp_via (fun K' hK => ?_)
      have HK := Lib.hid hK
      clear hK
      go_simp
      exact HK.out _ _ ⟨_, rfl, hg, Kept.refl _ _, rfl⟩
    · obtain rfl := Option.some.inj ho
      obtain rfl := Option.some.inj hd
      have e0 : a'.tmps.getD 13 undef = (Value.pointer (some ⟨kb, 0, none⟩)) := hdeps 1 (by decide) 13 rfl
      clear hoth hdeps hdf hts ho
      refine wp_via (fun K' hK => ?_)
      have HK := Lib.hid hK
      clear hK
      go_simp
      exact HK.out _ _ ⟨_, rfl, hg, Kept.refl _ _, rfl⟩
    · obtain rfl := Option.some.inj ho
      obtain rfl := Option.some.inj hd
      have e0 : a'.tmps.getD 14 undef = (Value.pointer (some ⟨kb, 7, none⟩)) := hdeps 2 (by decide) 14 rfl
      obtain ⟨-, -, -, -, -, hbk⟩ := HBLK.out wx hg
      have g0 : wx.cell? ⟨kb, 7, none⟩ = some (.map (some mb)) := cell_at hbk (by rw [Array.getElem?_push, if_pos hcs.symm])
      clear hoth hdeps hdf hts ho
      refine wp_via (fun K' hK => ?_)
      have HK := Lib.hid hK
      clear hK
      go_simp
      exact HK.out _ _ ⟨_, rfl, hg, Kept.refl _ _, rfl⟩
    · obtain rfl := Option.some.inj ho
      obtain rfl := Option.some.inj hd
      have e0 : a'.tmps.getD 5 undef = (Value.pointer (some ⟨pb, 0, none⟩)) := tmp_of ((hoth 5 (by decide)).trans rfl)
      obtain ⟨hbp, -, -, -, -, -⟩ := HBLK.out wx hg
      have g0 := cell_at (i := 0) hbp rfl
      have g1 := cell_at (i := 1) hbp rfl
      clear hbp
      clear hoth hdeps hdf hts ho
      refine wp_via (fun K' hK => ?_)
      have HK := Lib.hid hK
      clear hK
      go_simp
      exact HK.out _ _ ⟨_, rfl, hg, Kept.refl _ _, rfl⟩
    · obtain rfl := Option.some.inj ho
      obtain rfl := Option.some.inj hd
      have e0 : a'.tmps.getD 15 undef = .map (some mb) := hdeps 3 (by decide) 15 rfl
      have e1 : a'.tmps.getD 16 undef = .agg #[.string p.1, .string p.2] := hdeps 4 (by decide) 16 rfl
      have g1 := HLK.out wx hg
      clear hoth hdeps hdf hts ho
      refine wp_via (fun K' hK => ?_)
      have HK := Lib.hid hK
      clear hK
      go_simp
      exact HK.out _ _ ⟨_, rfl, hg, Kept.refl _ _, rfl⟩
  · intro wx f hg hd
    have e17 : f 17 = vs p := hd 5 17 (by decide) rfl
    rw [show dsts _ 6 = [12, 13, 14, 15, 16, 17] from by kernel_rfl]
    simp only [List.map_cons, List.map_nil, puts, Act.put, e17, List.drop_succ_cons, List.drop_zero]
    generalize f 12 = f12
    generalize f 13 = f13
    generalize f 14 = f14
    generalize f 15 = f15
    generalize f 16 = f16
    clear hd e17
    simp only [List.setIfInBounds_toArray, List.set_cons_zero, List.set_cons_succ]
    obtain ⟨va, vc, hva, -⟩ := ((HROW.out wx hg).acc p).form
    have hac := (HROW.out wx hg).acc p
    rw [hva, ← HXS.out] at hac
    rw [hva, ← HXS.out]
    obtain ⟨p', c', he, hsl⟩ := hac.sl RRaw.ok (by decide) (G := fun _ => True) (fun _ h => h.elim) (fun _ _ => trivial)
    have hva' : p' = va := by injection he with h1; exact h1.symm
    subst hva'
    have hT := hsl.rawsBelow (Nat.le_refl _)
    clear hac he hsl hva
    obtain ⟨bP, bT, bD, bR, bF, -⟩ := HBLK.out wx hg
    have hall := HK1.out.trans hg
    have hszx := hg.size
    go_wp2_with (go_at_call 158; refine (bk_any _ _ _ _).mono ?_; rintro e w' ⟨rfl, rfl⟩)
    obtain ⟨sb, hsb⟩ : ∃ k, k = wx.heap.size := ⟨_, rfl⟩
    have bS := heap_at wx (.cells #[.slice p' xs.length vc] 32) sb hsb
    rw [← hsb]
    have hk0 : All wx (wx.alloc (.cells #[.slice p' xs.length vc] 32)) := Kept.alloc _ _ _
    have hzW : (wx.alloc (.cells #[.slice p' xs.length vc] 32)).heap.size = sb + 1 := by rw [hsb]; simp
    have hT0 := (hT.below (hk0.below (Nat.le_refl _) (fun _ _ => trivial))).mono (show wx.heap.size ≤ sb + 1 by omega)
    replace bP := hk0.heap bP trivial
    replace bT := hk0.heap bT trivial
    replace bD := hk0.heap bD trivial
    replace bR := hk0.heap bR trivial
    replace bF := hk0.heap bF trivial
    have hall0 := hall.trans hk0
    have hfs : fb < sb := by have := HSZ.out; omega
    generalize wx.alloc (.cells #[.slice p' xs.length vc] 32) = W0 at *
    clear hT hk0 hsb hall hg hszx HROW HLK HBLK
    have hB0 : Below w.heap.size w W0 := hall0.below (Nat.le_refl _) (fun _ _ => trivial)
    refine (wpIn_wide (n := 6)).1 (wpIn_rangeFunc_ownH (F := Fence.wide) (n := 6) rfl (by omega) (gf := 234) (lb := #[.pointer (some ⟨sb, 0, none⟩)]) rfl trivial (enters_of Tryz.func234 (by kernel_rfl) rfl)
      (bk_stops Fence.wide 5 trivial rfl (by omega) sb (sb + 1) p' vc xs hxl W0 (by omega) (by omega) (cell_at (i := 0) bS rfl) hT0) belowK_t (belowK_b (by omega)) (Below.refl _ _) (fun _ => rfl)
      (fun pre W => (((W.heap[tb]? = some (.cells #[.int .i64 tm] 3 (0, 0)) ∧ W.heap[db]? = some (.cells #[.bool dn] 4 (0, 0))) ∧ W.heap[rb]? = some (.cells #[.int .i64 0, .int .i64 0, .string ⟨#[]⟩, .string ⟨#[]⟩, .string ⟨#[]⟩, .bool false, .slice none 0 0] 73 (0, 0))) ∧ W.heap[fb]? = some (.cells #[.bool false] 4 (0, 0))) ∧ (∀ y ∈ pre, ¬ hitR tm dn y.2) ∧ (sb + 1 ≤ W.heap.size ∧ Below w.heap.size w W))
      (fun c pre W => (∃ pre' x, c = .ret ∧ pre = pre' ++ [x] ∧ (∀ y ∈ pre', ¬ hitR tm dn y.2) ∧ hitR tm dn x.2 ∧ W.heap[rb]? = some (.cells #[.int .i64 x.2.1.no, .int .i64 x.2.1.tm, .string x.2.1.paper, .string x.2.1.person, .string x.2.1.by_, .bool x.2.1.done, .slice x.2.2.1 x.2.1.answers.length x.2.2.2] 73 (0, 0)) ∧ W.heap[fb]? = some (.cells #[.bool true] 4 (0, 0))) ∧ Below w.heap.size w W)
      (OwnFrom.and (OwnFrom.and (OwnFrom.and (OwnFrom.and (Own.from (blk_own tb 3 (fun _ => #[.int .i64 tm])) _) (Own.from (blk_own db 4 (fun _ => #[.bool dn])) _)) (Own.from (blk_own rb 73 (fun _ => #[.int .i64 0, .int .i64 0, .string ⟨#[]⟩, .string ⟨#[]⟩, .string ⟨#[]⟩, .bool false, .slice none 0 0])) _)) (Own.from (blk_own fb 4 (fun _ => #[.bool false])) _)) (OwnFrom.and (fun _ _ _ _ h _ _ => h) (OwnFrom.and (fun _ _ _ _ hs hg _ => Nat.le_trans hs hg.size) (ownFrom_below (Nat.le_refl _) (by have := hall0.size; omega)))))
      (fun c => OwnFrom.and (fun s A B row hs hg hr => by
        obtain ⟨pre', x, e1, e2, e3, e4, e5, e6⟩ := hs
        exact ⟨pre', x, e1, e2, e3, e4, blk_own rb 73 (fun (_ : Unit) => #[.int .i64 x.2.1.no, .int .i64 x.2.1.tm, .string x.2.1.paper, .string x.2.1.person, .string x.2.1.by_, .bool x.2.1.done, .slice x.2.2.1 x.2.1.answers.length x.2.2.2]) () A B row e5 hg (fun r e => (hr r e).2), blk_own fb 4 (fun (_ : Unit) => #[.bool true]) () A B row e6 hg (fun r e => (hr r e).2)⟩) (ownFrom_below (Nat.le_refl _) (by have := hall0.size; omega)))
      ⟨⟨⟨⟨bT, bD⟩, bR⟩, bF⟩, by simp, by omega, hB0⟩
      (fun x a' W => ∃ Bx, sb < Bx ∧ W.heap[Bx]? = some (.cells #[.int .i64 x.2.1.no, .int .i64 x.2.1.tm, .string x.2.1.paper, .string x.2.1.person, .string x.2.1.by_, .bool x.2.1.done, .slice x.2.2.1 x.2.1.answers.length x.2.2.2] 73 (0, 0)) ∧ a' = { tmps := #[.pointer (some ⟨kb, 0, none⟩), .agg #[.string p.1, .string p.2], .int .i64 tm, .bool dn, undef, .pointer (some ⟨pb, 0, none⟩), .pointer (some ⟨tb, 0, none⟩), .pointer (some ⟨db, 0, none⟩), .pointer (some ⟨rb, 0, none⟩), .pointer (some ⟨fb, 0, none⟩), undef, .pointer (some ⟨Bx, 0, none⟩), f12, f13, f14, f15, f16, (.slice p' xs.length vc), .func (.func 234) #[] #[.pointer (some ⟨sb, 0, none⟩)], .int .i64 (x.1 : Int), .agg #[.int .i64 x.2.1.no, .int .i64 x.2.1.tm, .string x.2.1.paper, .string x.2.1.person, .string x.2.1.by_, .bool x.2.1.done, .slice x.2.2.1 x.2.1.answers.length x.2.2.2], undef, undef, undef, undef, undef, undef, undef, undef, undef, undef, undef, undef, undef, undef], defers := [] })
      (fun x a' _ X Y row hs hg hr => by obtain ⟨Bx, h1, h2, h3⟩ := hs; exact ⟨Bx, h1, blk_own Bx 73 (fun (_ : Unit) => #[.int .i64 x.2.1.no, .int .i64 x.2.1.tm, .string x.2.1.paper, .string x.2.1.person, .string x.2.1.by_, .bool x.2.1.done, .slice x.2.2.1 x.2.1.answers.length x.2.2.2]) () X Y row h2 hg (fun r e => (hr r e).2), h3⟩)
      ?assign ?body ?done ?stop)
    case assign =>
      rintro l pre x W K ⟨⟨⟨⟨b1, b2⟩, b3⟩, b4⟩, hno, hz1, hB1⟩ hK
      dsimp only [encBk]
      gi_wp2
      exact hK _ _ ((KeepsOthers.alloc _ _).from _) ((Below.refl _ W).alloc hz1 _) ⟨⟨⟨⟨blk_alloc b1 _, blk_alloc b2 _⟩, blk_alloc b3 _⟩, blk_alloc b4 _⟩, hno, by simp; omega, hB1.alloc hB1.size _⟩ ⟨W.heap.size, by omega, World.alloc_heap_new W _, rfl⟩
    case body =>
      rintro l pre x a' W hl2 hr ⟨⟨⟨⟨b1, b2⟩, b3⟩, b4⟩, hno, hz1, hB1⟩ ⟨Bx, hBx, bX, rfl⟩ hlt
      obtain ⟨i, y, ya, yc⟩ := x
      dsimp only at bX
      have cT := cell_at (i := 0) b1 rfl
      have cD := cell_at (i := 0) b2 rfl
      have r0 := cell_at (i := 0) b3 rfl
      have r1 := cell_at (i := 1) b3 rfl
      have r2 := cell_at (i := 2) b3 rfl
      have r3 := cell_at (i := 3) b3 rfl
      have r4 := cell_at (i := 4) b3 rfl
      have r5 := cell_at (i := 5) b3 rfl
      have r6 := cell_at (i := 6) b3 rfl
      have u0 := frozen_at (i := 0) b3
      have u1 := frozen_at (i := 1) b3
      have u2 := frozen_at (i := 2) b3
      have u3 := frozen_at (i := 3) b3
      have u4 := frozen_at (i := 4) b3
      have u5 := frozen_at (i := 5) b3
      have u6 := frozen_at (i := 6) b3
      have cF := cell_at (i := 0) b4 rfl
      have uF := frozen_at (i := 0) b4
      have q0 := cell_at (i := 0) bX rfl
      have q1 := cell_at (i := 1) bX rfl
      have q2 := cell_at (i := 2) bX rfl
      have q3 := cell_at (i := 3) bX rfl
      have q4 := cell_at (i := 4) bX rfl
      have q5 := cell_at (i := 5) bX rfl
      have q6 := cell_at (i := 6) bX rfl
      have HNO := Lib.hid hno
      clear hno hr hlt
      by_cases g1 : y.tm ≤ tm
      case neg =>
        have d1 : decide (y.tm ≤ tm) = false := by simpa using g1
        have HG := Lib.hid (show ¬ hitR tm dn (y, ya, yc) from fun h => g1 h.1)
        clear g1
        gi_wp2
        exact ⟨KeepsFrom.refl _ _, Below.refl _ _, ⟨⟨⟨b1, b2⟩, b3⟩, b4⟩, fun z hz => (List.mem_append.1 hz).elim (HNO.out z) (fun e => by simp at e; subst e; exact HG.out), hz1, hB1⟩
      case pos =>
        have d1 : decide (y.tm ≤ tm) = true := by simpa using g1
        obtain ⟨dy, hdy⟩ : ∃ d, d = y.done := ⟨_, rfl⟩
        have HDY := Lib.hid hdy
        cases dy with
        | true =>
          have HG := Lib.hid (show hitR tm dn (y, ya, yc) from ⟨g1, Or.inl hdy.symm⟩)
          have hd2 : y.done = true := hdy.symm
          clear g1 hdy
          have j0 := heap_setCell_at W rb 0 (.int .i64 y.no) _ _ _ b3
          have j1 := heap_setCell_at (W.setCell ⟨rb, 0, none⟩ (.int .i64 y.no)) rb 1 (.int .i64 y.tm) _ _ _ j0
          have j2 := heap_setCell_at ((W.setCell ⟨rb, 0, none⟩ (.int .i64 y.no)).setCell ⟨rb, 1, none⟩ (.int .i64 y.tm)) rb 2 (.string y.paper) _ _ _ j1
          have j3 := heap_setCell_at (((W.setCell ⟨rb, 0, none⟩ (.int .i64 y.no)).setCell ⟨rb, 1, none⟩ (.int .i64 y.tm)).setCell ⟨rb, 2, none⟩ (.string y.paper)) rb 3 (.string y.person) _ _ _ j2
          have j4 := heap_setCell_at ((((W.setCell ⟨rb, 0, none⟩ (.int .i64 y.no)).setCell ⟨rb, 1, none⟩ (.int .i64 y.tm)).setCell ⟨rb, 2, none⟩ (.string y.paper)).setCell ⟨rb, 3, none⟩ (.string y.person)) rb 4 (.string y.by_) _ _ _ j3
          have j5 := heap_setCell_at (((((W.setCell ⟨rb, 0, none⟩ (.int .i64 y.no)).setCell ⟨rb, 1, none⟩ (.int .i64 y.tm)).setCell ⟨rb, 2, none⟩ (.string y.paper)).setCell ⟨rb, 3, none⟩ (.string y.person)).setCell ⟨rb, 4, none⟩ (.string y.by_)) rb 5 (.bool true) _ _ _ j4
          have j6 := heap_setCell_at ((((((W.setCell ⟨rb, 0, none⟩ (.int .i64 y.no)).setCell ⟨rb, 1, none⟩ (.int .i64 y.tm)).setCell ⟨rb, 2, none⟩ (.string y.paper)).setCell ⟨rb, 3, none⟩ (.string y.person)).setCell ⟨rb, 4, none⟩ (.string y.by_)).setCell ⟨rb, 5, none⟩ (.bool true)) rb 6 (.slice ya y.answers.length yc) _ _ _ j5
          have hr7 : ((((((((W.setCell ⟨rb, 0, none⟩ (.int .i64 y.no)).setCell ⟨rb, 1, none⟩ (.int .i64 y.tm)).setCell ⟨rb, 2, none⟩ (.string y.paper)).setCell ⟨rb, 3, none⟩ (.string y.person)).setCell ⟨rb, 4, none⟩ (.string y.by_)).setCell ⟨rb, 5, none⟩ (.bool true)).setCell ⟨rb, 6, none⟩ (.slice ya y.answers.length yc)).setCell ⟨fb, 0, none⟩ (.bool true)).heap[rb]? = some (.cells #[.int .i64 y.no, .int .i64 y.tm, .string y.paper, .string y.person, .string y.by_, .bool true, .slice ya y.answers.length yc] 73 (0, 0)) := (Below.heap_setCell (((((((W.setCell ⟨rb, 0, none⟩ (.int .i64 y.no)).setCell ⟨rb, 1, none⟩ (.int .i64 y.tm)).setCell ⟨rb, 2, none⟩ (.string y.paper)).setCell ⟨rb, 3, none⟩ (.string y.person)).setCell ⟨rb, 4, none⟩ (.string y.by_)).setCell ⟨rb, 5, none⟩ (.bool true)).setCell ⟨rb, 6, none⟩ (.slice ya y.answers.length yc)) ⟨fb, 0, none⟩ (.bool true) rb (by dsimp only; omega)).trans (by simpa using j6)
          have hf7 : ((((((((W.setCell ⟨rb, 0, none⟩ (.int .i64 y.no)).setCell ⟨rb, 1, none⟩ (.int .i64 y.tm)).setCell ⟨rb, 2, none⟩ (.string y.paper)).setCell ⟨rb, 3, none⟩ (.string y.person)).setCell ⟨rb, 4, none⟩ (.string y.by_)).setCell ⟨rb, 5, none⟩ (.bool true)).setCell ⟨rb, 6, none⟩ (.slice ya y.answers.length yc)).setCell ⟨fb, 0, none⟩ (.bool true)).heap[fb]? = some (.cells #[.bool true] 4 (0, 0)) := by
            have h0 : (((((((W.setCell ⟨rb, 0, none⟩ (.int .i64 y.no)).setCell ⟨rb, 1, none⟩ (.int .i64 y.tm)).setCell ⟨rb, 2, none⟩ (.string y.paper)).setCell ⟨rb, 3, none⟩ (.string y.person)).setCell ⟨rb, 4, none⟩ (.string y.by_)).setCell ⟨rb, 5, none⟩ (.bool true)).setCell ⟨rb, 6, none⟩ (.slice ya y.answers.length yc)).heap[fb]? = some (.cells #[.bool false] 4 (0, 0)) := by
              rw [Below.heap_setCell _ _ _ fb (by dsimp only; omega)]; rw [Below.heap_setCell _ _ _ fb (by dsimp only; omega)]; rw [Below.heap_setCell _ _ _ fb (by dsimp only; omega)]; rw [Below.heap_setCell _ _ _ fb (by dsimp only; omega)]; rw [Below.heap_setCell _ _ _ fb (by dsimp only; omega)]; rw [Below.heap_setCell _ _ _ fb (by dsimp only; omega)]; rw [Below.heap_setCell _ _ _ fb (by dsimp only; omega)]; exact b4
            simpa using heap_setCell_at _ fb 0 (.bool true) _ _ _ h0
          have HKO := Lib.hid (show KeepsOthers W ((((((((W.setCell ⟨rb, 0, none⟩ (.int .i64 y.no)).setCell ⟨rb, 1, none⟩ (.int .i64 y.tm)).setCell ⟨rb, 2, none⟩ (.string y.paper)).setCell ⟨rb, 3, none⟩ (.string y.person)).setCell ⟨rb, 4, none⟩ (.string y.by_)).setCell ⟨rb, 5, none⟩ (.bool true)).setCell ⟨rb, 6, none⟩ (.slice ya y.answers.length yc)).setCell ⟨fb, 0, none⟩ (.bool true)) from ((((((((KeepsOthers.refl W).trans (KeepsOthers.setCell W ⟨rb, 0, none⟩ (.int .i64 y.no))).trans (KeepsOthers.setCell (W.setCell ⟨rb, 0, none⟩ (.int .i64 y.no)) ⟨rb, 1, none⟩ (.int .i64 y.tm))).trans (KeepsOthers.setCell ((W.setCell ⟨rb, 0, none⟩ (.int .i64 y.no)).setCell ⟨rb, 1, none⟩ (.int .i64 y.tm)) ⟨rb, 2, none⟩ (.string y.paper))).trans (KeepsOthers.setCell (((W.setCell ⟨rb, 0, none⟩ (.int .i64 y.no)).setCell ⟨rb, 1, none⟩ (.int .i64 y.tm)).setCell ⟨rb, 2, none⟩ (.string y.paper)) ⟨rb, 3, none⟩ (.string y.person))).trans (KeepsOthers.setCell ((((W.setCell ⟨rb, 0, none⟩ (.int .i64 y.no)).setCell ⟨rb, 1, none⟩ (.int .i64 y.tm)).setCell ⟨rb, 2, none⟩ (.string y.paper)).setCell ⟨rb, 3, none⟩ (.string y.person)) ⟨rb, 4, none⟩ (.string y.by_))).trans (KeepsOthers.setCell (((((W.setCell ⟨rb, 0, none⟩ (.int .i64 y.no)).setCell ⟨rb, 1, none⟩ (.int .i64 y.tm)).setCell ⟨rb, 2, none⟩ (.string y.paper)).setCell ⟨rb, 3, none⟩ (.string y.person)).setCell ⟨rb, 4, none⟩ (.string y.by_)) ⟨rb, 5, none⟩ (.bool true))).trans (KeepsOthers.setCell ((((((W.setCell ⟨rb, 0, none⟩ (.int .i64 y.no)).setCell ⟨rb, 1, none⟩ (.int .i64 y.tm)).setCell ⟨rb, 2, none⟩ (.string y.paper)).setCell ⟨rb, 3, none⟩ (.string y.person)).setCell ⟨rb, 4, none⟩ (.string y.by_)).setCell ⟨rb, 5, none⟩ (.bool true)) ⟨rb, 6, none⟩ (.slice ya y.answers.length yc))).trans (KeepsOthers.setCell (((((((W.setCell ⟨rb, 0, none⟩ (.int .i64 y.no)).setCell ⟨rb, 1, none⟩ (.int .i64 y.tm)).setCell ⟨rb, 2, none⟩ (.string y.paper)).setCell ⟨rb, 3, none⟩ (.string y.person)).setCell ⟨rb, 4, none⟩ (.string y.by_)).setCell ⟨rb, 5, none⟩ (.bool true)).setCell ⟨rb, 6, none⟩ (.slice ya y.answers.length yc)) ⟨fb, 0, none⟩ (.bool true)))
          have HBL := Lib.hid (show Below w.heap.size w ((((((((W.setCell ⟨rb, 0, none⟩ (.int .i64 y.no)).setCell ⟨rb, 1, none⟩ (.int .i64 y.tm)).setCell ⟨rb, 2, none⟩ (.string y.paper)).setCell ⟨rb, 3, none⟩ (.string y.person)).setCell ⟨rb, 4, none⟩ (.string y.by_)).setCell ⟨rb, 5, none⟩ (.bool true)).setCell ⟨rb, 6, none⟩ (.slice ya y.answers.length yc)).setCell ⟨fb, 0, none⟩ (.bool true)) from ((((((((hB1.setCell (p := ⟨rb, 0, none⟩) (by dsimp only; omega) (.int .i64 y.no)).setCell (p := ⟨rb, 1, none⟩) (by dsimp only; omega) (.int .i64 y.tm)).setCell (p := ⟨rb, 2, none⟩) (by dsimp only; omega) (.string y.paper)).setCell (p := ⟨rb, 3, none⟩) (by dsimp only; omega) (.string y.person)).setCell (p := ⟨rb, 4, none⟩) (by dsimp only; omega) (.string y.by_)).setCell (p := ⟨rb, 5, none⟩) (by dsimp only; omega) (.bool true)).setCell (p := ⟨rb, 6, none⟩) (by dsimp only; omega) (.slice ya y.answers.length yc)).setCell (p := ⟨fb, 0, none⟩) (by dsimp only; omega) (.bool true)))
          have H7 := Lib.hid hr7
          have HF7 := Lib.hid hf7
          clear j0 j1 j2 j3 j4 j5 j6 hr7 hf7
          repeat (first | gi_step | gi_guarded | gi_upon | gi_in)
          have hfin : KeepsFrom W0.heap.size W ((((((((W.setCell ⟨rb, 0, none⟩ (.int .i64 y.no)).setCell ⟨rb, 1, none⟩ (.int .i64 y.tm)).setCell ⟨rb, 2, none⟩ (.string y.paper)).setCell ⟨rb, 3, none⟩ (.string y.person)).setCell ⟨rb, 4, none⟩ (.string y.by_)).setCell ⟨rb, 5, none⟩ (.bool true)).setCell ⟨rb, 6, none⟩ (.slice ya y.answers.length yc)).setCell ⟨fb, 0, none⟩ (.bool true)) ∧ ((∃ pre' x, Code.ret = .ret ∧ pre ++ [(i, y, ya, yc)] = pre' ++ [x] ∧ (∀ y ∈ pre', ¬ hitR tm dn y.2) ∧ hitR tm dn x.2 ∧ ((((((((W.setCell ⟨rb, 0, none⟩ (.int .i64 y.no)).setCell ⟨rb, 1, none⟩ (.int .i64 y.tm)).setCell ⟨rb, 2, none⟩ (.string y.paper)).setCell ⟨rb, 3, none⟩ (.string y.person)).setCell ⟨rb, 4, none⟩ (.string y.by_)).setCell ⟨rb, 5, none⟩ (.bool true)).setCell ⟨rb, 6, none⟩ (.slice ya y.answers.length yc)).setCell ⟨fb, 0, none⟩ (.bool true)).heap[rb]? = some (.cells #[.int .i64 x.2.1.no, .int .i64 x.2.1.tm, .string x.2.1.paper, .string x.2.1.person, .string x.2.1.by_, .bool x.2.1.done, .slice x.2.2.1 x.2.1.answers.length x.2.2.2] 73 (0, 0)) ∧ ((((((((W.setCell ⟨rb, 0, none⟩ (.int .i64 y.no)).setCell ⟨rb, 1, none⟩ (.int .i64 y.tm)).setCell ⟨rb, 2, none⟩ (.string y.paper)).setCell ⟨rb, 3, none⟩ (.string y.person)).setCell ⟨rb, 4, none⟩ (.string y.by_)).setCell ⟨rb, 5, none⟩ (.bool true)).setCell ⟨rb, 6, none⟩ (.slice ya y.answers.length yc)).setCell ⟨fb, 0, none⟩ (.bool true)).heap[fb]? = some (.cells #[.bool true] 4 (0, 0))) ∧ Below w.heap.size w ((((((((W.setCell ⟨rb, 0, none⟩ (.int .i64 y.no)).setCell ⟨rb, 1, none⟩ (.int .i64 y.tm)).setCell ⟨rb, 2, none⟩ (.string y.paper)).setCell ⟨rb, 3, none⟩ (.string y.person)).setCell ⟨rb, 4, none⟩ (.string y.by_)).setCell ⟨rb, 5, none⟩ (.bool true)).setCell ⟨rb, 6, none⟩ (.slice ya y.answers.length yc)).setCell ⟨fb, 0, none⟩ (.bool true))) := ⟨HKO.out.from _, ⟨pre, (i, y, ya, yc), rfl, rfl, HNO.out, HG.out, by rw [H7.out, hd2], HF7.out⟩, HBL.out⟩
          exact hfin
        | false =>
          have hd2 : y.done = false := hdy.symm
          cases dn with
          | false =>
            have HG := Lib.hid (show hitR tm false (y, ya, yc) from ⟨g1, Or.inr rfl⟩)
            clear g1 hdy
            have j0 := heap_setCell_at W rb 0 (.int .i64 y.no) _ _ _ b3
            have j1 := heap_setCell_at (W.setCell ⟨rb, 0, none⟩ (.int .i64 y.no)) rb 1 (.int .i64 y.tm) _ _ _ j0
            have j2 := heap_setCell_at ((W.setCell ⟨rb, 0, none⟩ (.int .i64 y.no)).setCell ⟨rb, 1, none⟩ (.int .i64 y.tm)) rb 2 (.string y.paper) _ _ _ j1
            have j3 := heap_setCell_at (((W.setCell ⟨rb, 0, none⟩ (.int .i64 y.no)).setCell ⟨rb, 1, none⟩ (.int .i64 y.tm)).setCell ⟨rb, 2, none⟩ (.string y.paper)) rb 3 (.string y.person) _ _ _ j2
            have j4 := heap_setCell_at ((((W.setCell ⟨rb, 0, none⟩ (.int .i64 y.no)).setCell ⟨rb, 1, none⟩ (.int .i64 y.tm)).setCell ⟨rb, 2, none⟩ (.string y.paper)).setCell ⟨rb, 3, none⟩ (.string y.person)) rb 4 (.string y.by_) _ _ _ j3
            have j5 := heap_setCell_at (((((W.setCell ⟨rb, 0, none⟩ (.int .i64 y.no)).setCell ⟨rb, 1, none⟩ (.int .i64 y.tm)).setCell ⟨rb, 2, none⟩ (.string y.paper)).setCell ⟨rb, 3, none⟩ (.string y.person)).setCell ⟨rb, 4, none⟩ (.string y.by_)) rb 5 (.bool false) _ _ _ j4
            have j6 := heap_setCell_at ((((((W.setCell ⟨rb, 0, none⟩ (.int .i64 y.no)).setCell ⟨rb, 1, none⟩ (.int .i64 y.tm)).setCell ⟨rb, 2, none⟩ (.string y.paper)).setCell ⟨rb, 3, none⟩ (.string y.person)).setCell ⟨rb, 4, none⟩ (.string y.by_)).setCell ⟨rb, 5, none⟩ (.bool false)) rb 6 (.slice ya y.answers.length yc) _ _ _ j5
            have hr7 : ((((((((W.setCell ⟨rb, 0, none⟩ (.int .i64 y.no)).setCell ⟨rb, 1, none⟩ (.int .i64 y.tm)).setCell ⟨rb, 2, none⟩ (.string y.paper)).setCell ⟨rb, 3, none⟩ (.string y.person)).setCell ⟨rb, 4, none⟩ (.string y.by_)).setCell ⟨rb, 5, none⟩ (.bool false)).setCell ⟨rb, 6, none⟩ (.slice ya y.answers.length yc)).setCell ⟨fb, 0, none⟩ (.bool true)).heap[rb]? = some (.cells #[.int .i64 y.no, .int .i64 y.tm, .string y.paper, .string y.person, .string y.by_, .bool false, .slice ya y.answers.length yc] 73 (0, 0)) := (Below.heap_setCell (((((((W.setCell ⟨rb, 0, none⟩ (.int .i64 y.no)).setCell ⟨rb, 1, none⟩ (.int .i64 y.tm)).setCell ⟨rb, 2, none⟩ (.string y.paper)).setCell ⟨rb, 3, none⟩ (.string y.person)).setCell ⟨rb, 4, none⟩ (.string y.by_)).setCell ⟨rb, 5, none⟩ (.bool false)).setCell ⟨rb, 6, none⟩ (.slice ya y.answers.length yc)) ⟨fb, 0, none⟩ (.bool true) rb (by dsimp only; omega)).trans (by simpa using j6)
            have hf7 : ((((((((W.setCell ⟨rb, 0, none⟩ (.int .i64 y.no)).setCell ⟨rb, 1, none⟩ (.int .i64 y.tm)).setCell ⟨rb, 2, none⟩ (.string y.paper)).setCell ⟨rb, 3, none⟩ (.string y.person)).setCell ⟨rb, 4, none⟩ (.string y.by_)).setCell ⟨rb, 5, none⟩ (.bool false)).setCell ⟨rb, 6, none⟩ (.slice ya y.answers.length yc)).setCell ⟨fb, 0, none⟩ (.bool true)).heap[fb]? = some (.cells #[.bool true] 4 (0, 0)) := by
              have h0 : (((((((W.setCell ⟨rb, 0, none⟩ (.int .i64 y.no)).setCell ⟨rb, 1, none⟩ (.int .i64 y.tm)).setCell ⟨rb, 2, none⟩ (.string y.paper)).setCell ⟨rb, 3, none⟩ (.string y.person)).setCell ⟨rb, 4, none⟩ (.string y.by_)).setCell ⟨rb, 5, none⟩ (.bool false)).setCell ⟨rb, 6, none⟩ (.slice ya y.answers.length yc)).heap[fb]? = some (.cells #[.bool false] 4 (0, 0)) := by
                rw [Below.heap_setCell _ _ _ fb (by dsimp only; omega)]; rw [Below.heap_setCell _ _ _ fb (by dsimp only; omega)]; rw [Below.heap_setCell _ _ _ fb (by dsimp only; omega)]; rw [Below.heap_setCell _ _ _ fb (by dsimp only; omega)]; rw [Below.heap_setCell _ _ _ fb (by dsimp only; omega)]; rw [Below.heap_setCell _ _ _ fb (by dsimp only; omega)]; rw [Below.heap_setCell _ _ _ fb (by dsimp only; omega)]; exact b4
              simpa using heap_setCell_at _ fb 0 (.bool true) _ _ _ h0
            have HKO := Lib.hid (show KeepsOthers W ((((((((W.setCell ⟨rb, 0, none⟩ (.int .i64 y.no)).setCell ⟨rb, 1, none⟩ (.int .i64 y.tm)).setCell ⟨rb, 2, none⟩ (.string y.paper)).setCell ⟨rb, 3, none⟩ (.string y.person)).setCell ⟨rb, 4, none⟩ (.string y.by_)).setCell ⟨rb, 5, none⟩ (.bool false)).setCell ⟨rb, 6, none⟩ (.slice ya y.answers.length yc)).setCell ⟨fb, 0, none⟩ (.bool true)) from ((((((((KeepsOthers.refl W).trans (KeepsOthers.setCell W ⟨rb, 0, none⟩ (.int .i64 y.no))).trans (KeepsOthers.setCell (W.setCell ⟨rb, 0, none⟩ (.int .i64 y.no)) ⟨rb, 1, none⟩ (.int .i64 y.tm))).trans (KeepsOthers.setCell ((W.setCell ⟨rb, 0, none⟩ (.int .i64 y.no)).setCell ⟨rb, 1, none⟩ (.int .i64 y.tm)) ⟨rb, 2, none⟩ (.string y.paper))).trans (KeepsOthers.setCell (((W.setCell ⟨rb, 0, none⟩ (.int .i64 y.no)).setCell ⟨rb, 1, none⟩ (.int .i64 y.tm)).setCell ⟨rb, 2, none⟩ (.string y.paper)) ⟨rb, 3, none⟩ (.string y.person))).trans (KeepsOthers.setCell ((((W.setCell ⟨rb, 0, none⟩ (.int .i64 y.no)).setCell ⟨rb, 1, none⟩ (.int .i64 y.tm)).setCell ⟨rb, 2, none⟩ (.string y.paper)).setCell ⟨rb, 3, none⟩ (.string y.person)) ⟨rb, 4, none⟩ (.string y.by_))).trans (KeepsOthers.setCell (((((W.setCell ⟨rb, 0, none⟩ (.int .i64 y.no)).setCell ⟨rb, 1, none⟩ (.int .i64 y.tm)).setCell ⟨rb, 2, none⟩ (.string y.paper)).setCell ⟨rb, 3, none⟩ (.string y.person)).setCell ⟨rb, 4, none⟩ (.string y.by_)) ⟨rb, 5, none⟩ (.bool false))).trans (KeepsOthers.setCell ((((((W.setCell ⟨rb, 0, none⟩ (.int .i64 y.no)).setCell ⟨rb, 1, none⟩ (.int .i64 y.tm)).setCell ⟨rb, 2, none⟩ (.string y.paper)).setCell ⟨rb, 3, none⟩ (.string y.person)).setCell ⟨rb, 4, none⟩ (.string y.by_)).setCell ⟨rb, 5, none⟩ (.bool false)) ⟨rb, 6, none⟩ (.slice ya y.answers.length yc))).trans (KeepsOthers.setCell (((((((W.setCell ⟨rb, 0, none⟩ (.int .i64 y.no)).setCell ⟨rb, 1, none⟩ (.int .i64 y.tm)).setCell ⟨rb, 2, none⟩ (.string y.paper)).setCell ⟨rb, 3, none⟩ (.string y.person)).setCell ⟨rb, 4, none⟩ (.string y.by_)).setCell ⟨rb, 5, none⟩ (.bool false)).setCell ⟨rb, 6, none⟩ (.slice ya y.answers.length yc)) ⟨fb, 0, none⟩ (.bool true)))
            have HBL := Lib.hid (show Below w.heap.size w ((((((((W.setCell ⟨rb, 0, none⟩ (.int .i64 y.no)).setCell ⟨rb, 1, none⟩ (.int .i64 y.tm)).setCell ⟨rb, 2, none⟩ (.string y.paper)).setCell ⟨rb, 3, none⟩ (.string y.person)).setCell ⟨rb, 4, none⟩ (.string y.by_)).setCell ⟨rb, 5, none⟩ (.bool false)).setCell ⟨rb, 6, none⟩ (.slice ya y.answers.length yc)).setCell ⟨fb, 0, none⟩ (.bool true)) from ((((((((hB1.setCell (p := ⟨rb, 0, none⟩) (by dsimp only; omega) (.int .i64 y.no)).setCell (p := ⟨rb, 1, none⟩) (by dsimp only; omega) (.int .i64 y.tm)).setCell (p := ⟨rb, 2, none⟩) (by dsimp only; omega) (.string y.paper)).setCell (p := ⟨rb, 3, none⟩) (by dsimp only; omega) (.string y.person)).setCell (p := ⟨rb, 4, none⟩) (by dsimp only; omega) (.string y.by_)).setCell (p := ⟨rb, 5, none⟩) (by dsimp only; omega) (.bool false)).setCell (p := ⟨rb, 6, none⟩) (by dsimp only; omega) (.slice ya y.answers.length yc)).setCell (p := ⟨fb, 0, none⟩) (by dsimp only; omega) (.bool true)))
            have H7 := Lib.hid hr7
            have HF7 := Lib.hid hf7
            clear j0 j1 j2 j3 j4 j5 j6 hr7 hf7
            repeat (first | gi_step | gi_guarded | gi_upon | gi_in)
            have hfin : KeepsFrom W0.heap.size W ((((((((W.setCell ⟨rb, 0, none⟩ (.int .i64 y.no)).setCell ⟨rb, 1, none⟩ (.int .i64 y.tm)).setCell ⟨rb, 2, none⟩ (.string y.paper)).setCell ⟨rb, 3, none⟩ (.string y.person)).setCell ⟨rb, 4, none⟩ (.string y.by_)).setCell ⟨rb, 5, none⟩ (.bool false)).setCell ⟨rb, 6, none⟩ (.slice ya y.answers.length yc)).setCell ⟨fb, 0, none⟩ (.bool true)) ∧ ((∃ pre' x, Code.ret = .ret ∧ pre ++ [(i, y, ya, yc)] = pre' ++ [x] ∧ (∀ y ∈ pre', ¬ hitR tm false y.2) ∧ hitR tm false x.2 ∧ ((((((((W.setCell ⟨rb, 0, none⟩ (.int .i64 y.no)).setCell ⟨rb, 1, none⟩ (.int .i64 y.tm)).setCell ⟨rb, 2, none⟩ (.string y.paper)).setCell ⟨rb, 3, none⟩ (.string y.person)).setCell ⟨rb, 4, none⟩ (.string y.by_)).setCell ⟨rb, 5, none⟩ (.bool false)).setCell ⟨rb, 6, none⟩ (.slice ya y.answers.length yc)).setCell ⟨fb, 0, none⟩ (.bool true)).heap[rb]? = some (.cells #[.int .i64 x.2.1.no, .int .i64 x.2.1.tm, .string x.2.1.paper, .string x.2.1.person, .string x.2.1.by_, .bool x.2.1.done, .slice x.2.2.1 x.2.1.answers.length x.2.2.2] 73 (0, 0)) ∧ ((((((((W.setCell ⟨rb, 0, none⟩ (.int .i64 y.no)).setCell ⟨rb, 1, none⟩ (.int .i64 y.tm)).setCell ⟨rb, 2, none⟩ (.string y.paper)).setCell ⟨rb, 3, none⟩ (.string y.person)).setCell ⟨rb, 4, none⟩ (.string y.by_)).setCell ⟨rb, 5, none⟩ (.bool false)).setCell ⟨rb, 6, none⟩ (.slice ya y.answers.length yc)).setCell ⟨fb, 0, none⟩ (.bool true)).heap[fb]? = some (.cells #[.bool true] 4 (0, 0))) ∧ Below w.heap.size w ((((((((W.setCell ⟨rb, 0, none⟩ (.int .i64 y.no)).setCell ⟨rb, 1, none⟩ (.int .i64 y.tm)).setCell ⟨rb, 2, none⟩ (.string y.paper)).setCell ⟨rb, 3, none⟩ (.string y.person)).setCell ⟨rb, 4, none⟩ (.string y.by_)).setCell ⟨rb, 5, none⟩ (.bool false)).setCell ⟨rb, 6, none⟩ (.slice ya y.answers.length yc)).setCell ⟨fb, 0, none⟩ (.bool true))) := ⟨HKO.out.from _, ⟨pre, (i, y, ya, yc), rfl, rfl, HNO.out, HG.out, by rw [H7.out, hd2], HF7.out⟩, HBL.out⟩
            exact hfin
          | true =>
            have HG := Lib.hid (show ¬ hitR tm true (y, ya, yc) from fun h => by rcases h.2 with h | h; exact absurd (hdy.trans h) (by simp); cases h)
            clear g1 hdy
            gi_wp2
            exact ⟨KeepsFrom.refl _ _, Below.refl _ _, ⟨⟨⟨b1, b2⟩, b3⟩, b4⟩, fun z hz => (List.mem_append.1 hz).elim (HNO.out z) (fun e => by simp at e; subst e; exact HG.out), hz1, hB1⟩
    case done =>
      rintro D ys W hD rfl ⟨⟨⟨⟨b1, b2⟩, b3⟩, b4⟩, hno, hz1, hB1⟩ hK
      rw [HXS.out] at hno
      have HOP := Lib.hid (lastO_none hno)
      have r0 := cell_at (i := 0) b3 rfl
      have r1 := cell_at (i := 1) b3 rfl
      have r2 := cell_at (i := 2) b3 rfl
      have r3 := cell_at (i := 3) b3 rfl
      have r4 := cell_at (i := 4) b3 rfl
      have r5 := cell_at (i := 5) b3 rfl
      have r6 := cell_at (i := 6) b3 rfl
      have u0 := frozen_at (i := 0) b3
      have u1 := frozen_at (i := 1) b3
      have u2 := frozen_at (i := 2) b3
      have u3 := frozen_at (i := 3) b3
      have u4 := frozen_at (i := 4) b3
      have u5 := frozen_at (i := 5) b3
      have u6 := frozen_at (i := 6) b3
      have cF := cell_at (i := 0) b4 rfl
      have uF := frozen_at (i := 0) b4
      clear hno
      have j0 := heap_setCell_at W rb 0 (.int .i64 0) _ _ _ b3
      have j1 := heap_setCell_at (W.setCell ⟨rb, 0, none⟩ (.int .i64 0)) rb 1 (.int .i64 0) _ _ _ j0
      have j2 := heap_setCell_at ((W.setCell ⟨rb, 0, none⟩ (.int .i64 0)).setCell ⟨rb, 1, none⟩ (.int .i64 0)) rb 2 (.string ⟨#[]⟩) _ _ _ j1
      have j3 := heap_setCell_at (((W.setCell ⟨rb, 0, none⟩ (.int .i64 0)).setCell ⟨rb, 1, none⟩ (.int .i64 0)).setCell ⟨rb, 2, none⟩ (.string ⟨#[]⟩)) rb 3 (.string ⟨#[]⟩) _ _ _ j2
      have j4 := heap_setCell_at ((((W.setCell ⟨rb, 0, none⟩ (.int .i64 0)).setCell ⟨rb, 1, none⟩ (.int .i64 0)).setCell ⟨rb, 2, none⟩ (.string ⟨#[]⟩)).setCell ⟨rb, 3, none⟩ (.string ⟨#[]⟩)) rb 4 (.string ⟨#[]⟩) _ _ _ j3
      have j5 := heap_setCell_at (((((W.setCell ⟨rb, 0, none⟩ (.int .i64 0)).setCell ⟨rb, 1, none⟩ (.int .i64 0)).setCell ⟨rb, 2, none⟩ (.string ⟨#[]⟩)).setCell ⟨rb, 3, none⟩ (.string ⟨#[]⟩)).setCell ⟨rb, 4, none⟩ (.string ⟨#[]⟩)) rb 5 (.bool false) _ _ _ j4
      have j6 := heap_setCell_at ((((((W.setCell ⟨rb, 0, none⟩ (.int .i64 0)).setCell ⟨rb, 1, none⟩ (.int .i64 0)).setCell ⟨rb, 2, none⟩ (.string ⟨#[]⟩)).setCell ⟨rb, 3, none⟩ (.string ⟨#[]⟩)).setCell ⟨rb, 4, none⟩ (.string ⟨#[]⟩)).setCell ⟨rb, 5, none⟩ (.bool false)) rb 6 (.slice none 0 0) _ _ _ j5
      have hr7 : ((((((((W.setCell ⟨rb, 0, none⟩ (.int .i64 0)).setCell ⟨rb, 1, none⟩ (.int .i64 0)).setCell ⟨rb, 2, none⟩ (.string ⟨#[]⟩)).setCell ⟨rb, 3, none⟩ (.string ⟨#[]⟩)).setCell ⟨rb, 4, none⟩ (.string ⟨#[]⟩)).setCell ⟨rb, 5, none⟩ (.bool false)).setCell ⟨rb, 6, none⟩ (.slice none 0 0)).setCell ⟨fb, 0, none⟩ (.bool false)).heap[rb]? = some (.cells #[.int .i64 0, .int .i64 0, .string ⟨#[]⟩, .string ⟨#[]⟩, .string ⟨#[]⟩, .bool false, .slice none 0 0] 73 (0, 0)) := (Below.heap_setCell (((((((W.setCell ⟨rb, 0, none⟩ (.int .i64 0)).setCell ⟨rb, 1, none⟩ (.int .i64 0)).setCell ⟨rb, 2, none⟩ (.string ⟨#[]⟩)).setCell ⟨rb, 3, none⟩ (.string ⟨#[]⟩)).setCell ⟨rb, 4, none⟩ (.string ⟨#[]⟩)).setCell ⟨rb, 5, none⟩ (.bool false)).setCell ⟨rb, 6, none⟩ (.slice none 0 0)) ⟨fb, 0, none⟩ (.bool false) rb (by dsimp only; omega)).trans (by simpa using j6)
      have hf7 : ((((((((W.setCell ⟨rb, 0, none⟩ (.int .i64 0)).setCell ⟨rb, 1, none⟩ (.int .i64 0)).setCell ⟨rb, 2, none⟩ (.string ⟨#[]⟩)).setCell ⟨rb, 3, none⟩ (.string ⟨#[]⟩)).setCell ⟨rb, 4, none⟩ (.string ⟨#[]⟩)).setCell ⟨rb, 5, none⟩ (.bool false)).setCell ⟨rb, 6, none⟩ (.slice none 0 0)).setCell ⟨fb, 0, none⟩ (.bool false)).heap[fb]? = some (.cells #[.bool false] 4 (0, 0)) := by
        have h0 : (((((((W.setCell ⟨rb, 0, none⟩ (.int .i64 0)).setCell ⟨rb, 1, none⟩ (.int .i64 0)).setCell ⟨rb, 2, none⟩ (.string ⟨#[]⟩)).setCell ⟨rb, 3, none⟩ (.string ⟨#[]⟩)).setCell ⟨rb, 4, none⟩ (.string ⟨#[]⟩)).setCell ⟨rb, 5, none⟩ (.bool false)).setCell ⟨rb, 6, none⟩ (.slice none 0 0)).heap[fb]? = some (.cells #[.bool false] 4 (0, 0)) := by
          rw [Below.heap_setCell _ _ _ fb (by dsimp only; omega)]; rw [Below.heap_setCell _ _ _ fb (by dsimp only; omega)]; rw [Below.heap_setCell _ _ _ fb (by dsimp only; omega)]; rw [Below.heap_setCell _ _ _ fb (by dsimp only; omega)]; rw [Below.heap_setCell _ _ _ fb (by dsimp only; omega)]; rw [Below.heap_setCell _ _ _ fb (by dsimp only; omega)]; rw [Below.heap_setCell _ _ _ fb (by dsimp only; omega)]; exact b4
        simpa using heap_setCell_at _ fb 0 (.bool false) _ _ _ h0
      have hK' := (((((((((KeepsOthers.refl W).trans (KeepsOthers.setCell W ⟨rb, 0, none⟩ (.int .i64 0))).trans (KeepsOthers.setCell (W.setCell ⟨rb, 0, none⟩ (.int .i64 0)) ⟨rb, 1, none⟩ (.int .i64 0))).trans (KeepsOthers.setCell ((W.setCell ⟨rb, 0, none⟩ (.int .i64 0)).setCell ⟨rb, 1, none⟩ (.int .i64 0)) ⟨rb, 2, none⟩ (.string ⟨#[]⟩))).trans (KeepsOthers.setCell (((W.setCell ⟨rb, 0, none⟩ (.int .i64 0)).setCell ⟨rb, 1, none⟩ (.int .i64 0)).setCell ⟨rb, 2, none⟩ (.string ⟨#[]⟩)) ⟨rb, 3, none⟩ (.string ⟨#[]⟩))).trans (KeepsOthers.setCell ((((W.setCell ⟨rb, 0, none⟩ (.int .i64 0)).setCell ⟨rb, 1, none⟩ (.int .i64 0)).setCell ⟨rb, 2, none⟩ (.string ⟨#[]⟩)).setCell ⟨rb, 3, none⟩ (.string ⟨#[]⟩)) ⟨rb, 4, none⟩ (.string ⟨#[]⟩))).trans (KeepsOthers.setCell (((((W.setCell ⟨rb, 0, none⟩ (.int .i64 0)).setCell ⟨rb, 1, none⟩ (.int .i64 0)).setCell ⟨rb, 2, none⟩ (.string ⟨#[]⟩)).setCell ⟨rb, 3, none⟩ (.string ⟨#[]⟩)).setCell ⟨rb, 4, none⟩ (.string ⟨#[]⟩)) ⟨rb, 5, none⟩ (.bool false))).trans (KeepsOthers.setCell ((((((W.setCell ⟨rb, 0, none⟩ (.int .i64 0)).setCell ⟨rb, 1, none⟩ (.int .i64 0)).setCell ⟨rb, 2, none⟩ (.string ⟨#[]⟩)).setCell ⟨rb, 3, none⟩ (.string ⟨#[]⟩)).setCell ⟨rb, 4, none⟩ (.string ⟨#[]⟩)).setCell ⟨rb, 5, none⟩ (.bool false)) ⟨rb, 6, none⟩ (.slice none 0 0))).trans (KeepsOthers.setCell (((((((W.setCell ⟨rb, 0, none⟩ (.int .i64 0)).setCell ⟨rb, 1, none⟩ (.int .i64 0)).setCell ⟨rb, 2, none⟩ (.string ⟨#[]⟩)).setCell ⟨rb, 3, none⟩ (.string ⟨#[]⟩)).setCell ⟨rb, 4, none⟩ (.string ⟨#[]⟩)).setCell ⟨rb, 5, none⟩ (.bool false)).setCell ⟨rb, 6, none⟩ (.slice none 0 0)) ⟨fb, 0, none⟩ (.bool false)) : KeepsOthers W ((((((((W.setCell ⟨rb, 0, none⟩ (.int .i64 0)).setCell ⟨rb, 1, none⟩ (.int .i64 0)).setCell ⟨rb, 2, none⟩ (.string ⟨#[]⟩)).setCell ⟨rb, 3, none⟩ (.string ⟨#[]⟩)).setCell ⟨rb, 4, none⟩ (.string ⟨#[]⟩)).setCell ⟨rb, 5, none⟩ (.bool false)).setCell ⟨rb, 6, none⟩ (.slice none 0 0)).setCell ⟨fb, 0, none⟩ (.bool false))).same D _ hK rfl
      have hBz : Below w.heap.size w ((((((((W.setCell ⟨rb, 0, none⟩ (.int .i64 0)).setCell ⟨rb, 1, none⟩ (.int .i64 0)).setCell ⟨rb, 2, none⟩ (.string ⟨#[]⟩)).setCell ⟨rb, 3, none⟩ (.string ⟨#[]⟩)).setCell ⟨rb, 4, none⟩ (.string ⟨#[]⟩)).setCell ⟨rb, 5, none⟩ (.bool false)).setCell ⟨rb, 6, none⟩ (.slice none 0 0)).setCell ⟨fb, 0, none⟩ (.bool false)) := ((((((((hB1.setCell (p := ⟨rb, 0, none⟩) (by dsimp only; omega) (.int .i64 0)).setCell (p := ⟨rb, 1, none⟩) (by dsimp only; omega) (.int .i64 0)).setCell (p := ⟨rb, 2, none⟩) (by dsimp only; omega) (.string ⟨#[]⟩)).setCell (p := ⟨rb, 3, none⟩) (by dsimp only; omega) (.string ⟨#[]⟩)).setCell (p := ⟨rb, 4, none⟩) (by dsimp only; omega) (.string ⟨#[]⟩)).setCell (p := ⟨rb, 5, none⟩) (by dsimp only; omega) (.bool false)).setCell (p := ⟨rb, 6, none⟩) (by dsimp only; omega) (.slice none 0 0)).setCell (p := ⟨fb, 0, none⟩) (by dsimp only; omega) (.bool false))
      clear j0 j1 j2 j3 j4 j5 j6
      go_wp2_with fail
      refine ⟨by simp, .inl ⟨_, _, rfl, run_takeDeferred hK', ?_⟩⟩
      have k0 := cell_kept (cell_at (i := 0) hr7 rfl) (grownBy_putObj' _ D (.deferred none)) (fun r e => by cases e; exact ⟨_, hK', rfl⟩)
      have k1 := cell_kept (cell_at (i := 1) hr7 rfl) (grownBy_putObj' _ D (.deferred none)) (fun r e => by cases e; exact ⟨_, hK', rfl⟩)
      have k2 := cell_kept (cell_at (i := 2) hr7 rfl) (grownBy_putObj' _ D (.deferred none)) (fun r e => by cases e; exact ⟨_, hK', rfl⟩)
      have k3 := cell_kept (cell_at (i := 3) hr7 rfl) (grownBy_putObj' _ D (.deferred none)) (fun r e => by cases e; exact ⟨_, hK', rfl⟩)
      have k4 := cell_kept (cell_at (i := 4) hr7 rfl) (grownBy_putObj' _ D (.deferred none)) (fun r e => by cases e; exact ⟨_, hK', rfl⟩)
      have k5 := cell_kept (cell_at (i := 5) hr7 rfl) (grownBy_putObj' _ D (.deferred none)) (fun r e => by cases e; exact ⟨_, hK', rfl⟩)
      have k6 := cell_kept (cell_at (i := 6) hr7 rfl) (grownBy_putObj' _ D (.deferred none)) (fun r e => by cases e; exact ⟨_, hK', rfl⟩)
      have kf := cell_kept (cell_at (i := 0) hf7 rfl) (grownBy_putObj' _ D (.deferred none)) (fun r e => by cases e; exact ⟨_, hK', rfl⟩)
      refine ⟨.tuple #[.agg #[.int .i64 0, .int .i64 0, .string ⟨#[]⟩, .string ⟨#[]⟩, .string ⟨#[]⟩, .bool false, .slice none 0 0], .bool false], ?_, ?_, Kept.of_below (hBz.trans (belowK_b (w := w) (Nat.le_refl _) _ D _ _ (by omega) hK' rfl rfl))⟩
      · simp [results, Tryz.results82, go_sem, k0, k1, k2, k3, k4, k5, k6, kf]
      · rw [HOP.out]; rfl
    case stop =>
      rintro D c pre W hD ⟨k, hk, rfl⟩ ⟨⟨pre', x, rfl, e2, e3, e4, e5, e6⟩, hB1⟩ hK
      rw [bkTo_succ] at e2
      obtain ⟨e7, e8⟩ := List.append_inj' e2 rfl
      have e9 : bkAt xs k = x := by simpa using e8
      subst e7 e9
      have hop := lastO_hit (ts := ts) (p := p) (by rw [← HXS.out]; exact hk) (by rw [← HXS.out]; exact e3) (by rw [← HXS.out]; exact e4)
      rw [← HXS.out] at hop
      have HOP := Lib.hid hop
      clear hop e2 e3 e4 e8
      gi_wp2
      refine ⟨by simp, .inl ⟨_, _, rfl, run_takeDeferred hK, ?_⟩⟩
      have k0 := cell_kept (cell_at (i := 0) e5 rfl) (grownBy_putObj' _ D (.deferred none)) (fun r e => by cases e; exact ⟨_, hK, rfl⟩)
      have k1 := cell_kept (cell_at (i := 1) e5 rfl) (grownBy_putObj' _ D (.deferred none)) (fun r e => by cases e; exact ⟨_, hK, rfl⟩)
      have k2 := cell_kept (cell_at (i := 2) e5 rfl) (grownBy_putObj' _ D (.deferred none)) (fun r e => by cases e; exact ⟨_, hK, rfl⟩)
      have k3 := cell_kept (cell_at (i := 3) e5 rfl) (grownBy_putObj' _ D (.deferred none)) (fun r e => by cases e; exact ⟨_, hK, rfl⟩)
      have k4 := cell_kept (cell_at (i := 4) e5 rfl) (grownBy_putObj' _ D (.deferred none)) (fun r e => by cases e; exact ⟨_, hK, rfl⟩)
      have k5 := cell_kept (cell_at (i := 5) e5 rfl) (grownBy_putObj' _ D (.deferred none)) (fun r e => by cases e; exact ⟨_, hK, rfl⟩)
      have k6 := cell_kept (cell_at (i := 6) e5 rfl) (grownBy_putObj' _ D (.deferred none)) (fun r e => by cases e; exact ⟨_, hK, rfl⟩)
      have kf := cell_kept (cell_at (i := 0) e6 rfl) (grownBy_putObj' _ D (.deferred none)) (fun r e => by cases e; exact ⟨_, hK, rfl⟩)
      refine ⟨.tuple #[.agg #[.int .i64 (bkAt xs k).2.1.no, .int .i64 (bkAt xs k).2.1.tm, .string (bkAt xs k).2.1.paper, .string (bkAt xs k).2.1.person, .string (bkAt xs k).2.1.by_, .bool (bkAt xs k).2.1.done, .slice (bkAt xs k).2.2.1 (bkAt xs k).2.1.answers.length (bkAt xs k).2.2.2], .bool true], ?_, ?_, Kept.of_below (hB1.trans (belowK_b (w := w) (Nat.le_refl _) _ D _ _ (by omega) hK rfl rfl))⟩
      · simp [results, Tryz.results82, go_sem, k0, k1, k2, k3, k4, k5, k6, kf]
      · rw [HOP.out]; rfl
end Go.Proofs.YtjbaijgdkkccbaaGreatDoor

/- The last review of a pair, by the reference: last, LatestOf, Valid. -/
namespace Go.Proofs.YtjbaijgdkkccbaaGreatDoor
open Go.RowKit

/-- The last hit of a list. -/
def lastP (ts : List Raw) (p : K2) (tm : Int) (dn : Bool) : Option Raw := (ts.filter (fun y => (decide (y.1.tm ≤ tm) && (y.1.done || !dn)) && decide ((y.1.paper, y.1.person) = p))).getLast?
theorem lastO_eq (ts : List Raw) (p : K2) (tm : Int) (dn : Bool) : lastO ts p tm dn = lastP ts p tm dn := by
  rw [lastO, lastP, bookF, ← List.head?_filter, ← List.filter_reverse, List.filter_filter, List.filter_reverse, List.head?_reverse]
theorem lastP_snoc (ts : List Raw) (y : Raw) (p : K2) (tm : Int) (dn : Bool) : lastP (ts ++ [y]) p tm dn = if ((decide (y.1.tm ≤ tm) && (y.1.done || !dn)) && decide ((y.1.paper, y.1.person) = p)) = true then some y else lastP ts p tm dn := by
  have e : [y].filter (fun y => (decide (y.1.tm ≤ tm) && (y.1.done || !dn)) && decide ((y.1.paper, y.1.person) = p)) = if ((decide (y.1.tm ≤ tm) && (y.1.done || !dn)) && decide ((y.1.paper, y.1.person) = p)) = true then [y] else [] := by rw [List.filter_cons, List.filter_nil]
  rw [lastP, List.filter_append, e]
  by_cases h : ((decide (y.1.tm ≤ tm) && (y.1.done || !dn)) && decide ((y.1.paper, y.1.person) = p)) = true
  · rw [if_pos h, if_pos h]
    simp
  · rw [if_neg h, if_neg h, List.append_nil, lastP]
set_option maxRecDepth 100000 in
set_option maxHeartbeats 12800000 in
theorem lastR_any (a : Option Addr) (len cap : Nat) (ts : List Raw) (p : K2) (tm : Int) (dr : Bool) (w : World) (hs : Sl RRaw 7 (fun _ => True) w a len ts) (hl : len ≤ 1000000) :
    Calls Tryz.prog 92 #[.slice a len cap, .agg #[.string p.1, .string p.2], .int .i64 tm, .bool dr] w fun e w' => e = .returned (.tuple #[.agg (encRaw ((lastO ts p tm (!dr)).getD raw0)).toArray, .bool (lastO ts p tm (!dr)).isSome]) ∧ All w w' := by
  have Hlen := Lib.hid hs.len
  have hk1 : All w (((w.alloc (.cells #[.string p.1, .string p.2] 39)).alloc (.cells #[.int .i64 0, .int .i64 0, .string ⟨#[]⟩, .string ⟨#[]⟩, .string ⟨#[]⟩, .bool false, .slice none 0 0] 73)).alloc (.cells #[.int .i64 0, .int .i64 0, .string ⟨#[]⟩, .string ⟨#[]⟩, .string ⟨#[]⟩, .bool false, .slice none 0 0] 73)) := ((Kept.alloc _ _ _).then_alloc _).then_alloc _
  obtain ⟨pb, hpb⟩ : ∃ k, k = w.heap.size := ⟨_, rfl⟩
  obtain ⟨rb, hrb⟩ : ∃ k, k = w.heap.size + 1 := ⟨_, rfl⟩
  obtain ⟨ob, hob⟩ : ∃ k, k = w.heap.size + 2 := ⟨_, rfl⟩
  have bP : (((w.alloc (.cells #[.string p.1, .string p.2] 39)).alloc (.cells #[.int .i64 0, .int .i64 0, .string ⟨#[]⟩, .string ⟨#[]⟩, .string ⟨#[]⟩, .bool false, .slice none 0 0] 73)).alloc (.cells #[.int .i64 0, .int .i64 0, .string ⟨#[]⟩, .string ⟨#[]⟩, .string ⟨#[]⟩, .bool false, .slice none 0 0] 73)).heap[pb]? = some (.cells #[.string p.1, .string p.2] 39 (0, 0)) := heap_old _ (heap_old _ (heap_at w (.cells #[.string p.1, .string p.2] 39) pb (by simp [hpb])))
  have bR : (((w.alloc (.cells #[.string p.1, .string p.2] 39)).alloc (.cells #[.int .i64 0, .int .i64 0, .string ⟨#[]⟩, .string ⟨#[]⟩, .string ⟨#[]⟩, .bool false, .slice none 0 0] 73)).alloc (.cells #[.int .i64 0, .int .i64 0, .string ⟨#[]⟩, .string ⟨#[]⟩, .string ⟨#[]⟩, .bool false, .slice none 0 0] 73)).heap[rb]? = some (.cells #[.int .i64 0, .int .i64 0, .string ⟨#[]⟩, .string ⟨#[]⟩, .string ⟨#[]⟩, .bool false, .slice none 0 0] 73 (0, 0)) := heap_old _ (heap_at _ (.cells #[.int .i64 0, .int .i64 0, .string ⟨#[]⟩, .string ⟨#[]⟩, .string ⟨#[]⟩, .bool false, .slice none 0 0] 73) rb (by simp [hrb]))
  have bO : (((w.alloc (.cells #[.string p.1, .string p.2] 39)).alloc (.cells #[.int .i64 0, .int .i64 0, .string ⟨#[]⟩, .string ⟨#[]⟩, .string ⟨#[]⟩, .bool false, .slice none 0 0] 73)).alloc (.cells #[.int .i64 0, .int .i64 0, .string ⟨#[]⟩, .string ⟨#[]⟩, .string ⟨#[]⟩, .bool false, .slice none 0 0] 73)).heap[ob]? = some (.cells #[.int .i64 0, .int .i64 0, .string ⟨#[]⟩, .string ⟨#[]⟩, .string ⟨#[]⟩, .bool false, .slice none 0 0] 73 (0, 0)) := heap_at _ (.cells #[.int .i64 0, .int .i64 0, .string ⟨#[]⟩, .string ⟨#[]⟩, .string ⟨#[]⟩, .bool false, .slice none 0 0] 73) ob (by simp [hob])
  have hsz : (((w.alloc (.cells #[.string p.1, .string p.2] 39)).alloc (.cells #[.int .i64 0, .int .i64 0, .string ⟨#[]⟩, .string ⟨#[]⟩, .string ⟨#[]⟩, .bool false, .slice none 0 0] 73)).alloc (.cells #[.int .i64 0, .int .i64 0, .string ⟨#[]⟩, .string ⟨#[]⟩, .string ⟨#[]⟩, .bool false, .slice none 0 0] 73)).heap.size = ob + 1 := by simp [hob]
  have HPB := Lib.hid hpb
  have HRB := Lib.hid (show rb = pb + 1 by omega)
  have HOB := Lib.hid (show ob = rb + 1 by omega)
  have hord : w.heap.size ≤ pb ∧ pb < rb ∧ rb < ob := by omega
  have HS := Lib.hid (fun (wx : World) (k : All w wx) => hs.keep RRaw.ok k)
  obtain ⟨dn, hdn⟩ : ∃ d, d = !dr := ⟨_, rfl⟩
  have HDN := Lib.hid hdn
  rw [← hdn]
  clear hpb hrb hob hs hdn
  go_enter Tryz.func92, Tryz.ntmps92
  go_wp2_with fail
  simp only [← HPB.out]
  simp only [← HRB.out]
  simp only [← HOB.out]
  generalize (((w.alloc (.cells #[.string p.1, .string p.2] 39)).alloc (.cells #[.int .i64 0, .int .i64 0, .string ⟨#[]⟩, .string ⟨#[]⟩, .string ⟨#[]⟩, .bool false, .slice none 0 0] 73)).alloc (.cells #[.int .i64 0, .int .i64 0, .string ⟨#[]⟩, .string ⟨#[]⟩, .string ⟨#[]⟩, .bool false, .slice none 0 0] 73)) = w1 at *
  have Hend := Lib.hid (show ∀ wx, Kept (fun j => j ≠ ob) w1 wx → All w wx from fun wx hw => hk1.trans2 hw (fun i hi _ e => by omega))
  have HB := Lib.hid (fun (wx : World) (k : Kept (fun j => j ≠ ob) w1 wx) => (⟨k.heap bP (by omega), k.heap bR (by omega)⟩ : wx.heap[pb]? = _ ∧ wx.heap[rb]? = _))
  have HO := Lib.hid bO
  clear hk1 bP bR bO
  go_loopw [11, 16] (fun g i wr => ∃ k : Nat, k ≤ len ∧ i = .int .i64 k ∧ g = .bool (lastP (ts.take k) p tm dn).isSome ∧ wr.heap[ob]? = some (.cells (encRaw ((lastP (ts.take k) p tm dn).getD raw0)).toArray 73 (0, 0)) ∧ Kept (fun j => j ≠ ob) w1 wr) (fun _ i _ => len - (intOf i).toNat)
  case atStart => exact ⟨0, Nat.zero_le _, rfl, rfl, HO.out, Kept.refl _ _⟩
  case round =>
    obtain ⟨k, hk, rfl, rfl, hcur, hwr⟩ := hrel
    obtain ⟨wo, rfl⟩ : ∃ wo : World, wo = wr := ⟨_, rfl⟩
    obtain ⟨cu, hcu⟩ : ∃ c, c = lastP (ts.take k) p tm dn := ⟨_, rfl⟩
    have HCU := Lib.hid hcu
    rw [← hcu] at hcur ⊢
    clear hcu
    by_cases hlt : k < len
    · have hq := Hend.out _ hwr
      obtain ⟨b, off, ⟨x, aa, ac⟩, ha, -, c0, c1, c2, c3, c4, c5, c6, hsm, hx, htk⟩ := (HS.out _ hq).atRaw hlt
      subst ha
      dsimp only at c0 c1 c2 c3 c4 c5 c6
      have HX := Lib.hid (show lastP (ts.take (k + 1)) p tm dn = _ from by rw [htk, lastP_snoc])
      have hko : All wo (wo.alloc (.cells #[.int .i64 x.no, .int .i64 x.tm, .string x.paper, .string x.person, .string x.by_, .bool x.done, .slice aa x.answers.length ac] 73)) := Kept.alloc _ _ _
      have hblk := heap_at wo (.cells #[.int .i64 x.no, .int .i64 x.tm, .string x.paper, .string x.person, .string x.by_, .bool x.done, .slice aa x.answers.length ac] 73) _ rfl
      obtain ⟨bP, -⟩ := HB.out _ hwr
      have hp1 := heap_old (w := wo) (.cells #[.int .i64 x.no, .int .i64 x.tm, .string x.paper, .string x.person, .string x.by_, .bool x.done, .slice aa x.answers.length ac] 73) bP
      have ho1 := heap_old (w := wo) (.cells #[.int .i64 x.no, .int .i64 x.tm, .string x.paper, .string x.person, .string x.by_, .bool x.done, .slice aa x.answers.length ac] 73) hcur
      have hw1 := hwr.then_alloc (.cells #[.int .i64 x.no, .int .i64 x.tm, .string x.paper, .string x.person, .string x.by_, .bool x.done, .slice aa x.answers.length ac] 73)
      have hzo := hwr.size
      obtain ⟨xb, hxb⟩ : ∃ q, q = wo.heap.size := ⟨_, rfl⟩
      have HXB := Lib.hid hxb
      rw [← hxb] at hblk
      have hxo : ob < xb := by omega
      clear hxb hko htk hx hsm hq bP hcur hwr
      go_upto_region 6 with fail
      simp only [← HXB.out]
      generalize wo.alloc (.cells #[.int .i64 x.no, .int .i64 x.tm, .string x.paper, .string x.person, .string x.by_, .bool x.done, .slice aa x.answers.length ac] 73) = wa at *
      clear c0 c1 c2 c3 c4 c5 c6
      have q0 := cell_at (i := 0) hblk rfl
      have q1 := cell_at (i := 1) hblk rfl
      have q2 := cell_at (i := 2) hblk rfl
      have q3 := cell_at (i := 3) hblk rfl
      have q4 := cell_at (i := 4) hblk rfl
      have q5 := cell_at (i := 5) hblk rfl
      have q6 := cell_at (i := 6) hblk rfl
      have e0 := cell_at (i := 0) hp1 rfl
      have e1 := cell_at (i := 1) hp1 rfl
      clear hblk hp1
      by_cases h1 : x.paper = p.1
      case neg =>
        have d1 : (x.paper.toList == p.1.toList) = false := bytes_ne h1
        have hN := Lib.hid (show lastP (ts.take (k + 1)) p tm dn = cu from by rw [HX.out, HCU.out, if_neg]; exact fun h => by simp at h; exact h1 (congrArg Prod.fst h.2))
        have HO1 := Lib.hid ho1
        have HW1 := Lib.hid hw1
        clear ho1 hw1
        go_wp2_with fail
        go_roundw
        case rel => exact ⟨k + 1, by omega, by go_num, by rw [hN.out], by rw [hN.out]; exact HO1.out, HW1.out⟩
        case measure => simp [intOf]; omega
      case pos =>
        have d1 : (x.paper.toList == p.1.toList) = true := by rw [h1]; simp
        have H1 := Lib.hid h1
        clear h1
        by_cases h2 : x.person = p.2
        case neg =>
          have d2 : (x.person.toList == p.2.toList) = false := bytes_ne h2
          have hN := Lib.hid (show lastP (ts.take (k + 1)) p tm dn = cu from by rw [HX.out, HCU.out, if_neg]; exact fun h => by simp at h; exact h2 (congrArg Prod.snd h.2))
          have HO1 := Lib.hid ho1
          have HW1 := Lib.hid hw1
          clear ho1 hw1
          go_wp2_with fail
          go_roundw
          case rel => exact ⟨k + 1, by omega, by go_num, by rw [hN.out], by rw [hN.out]; exact HO1.out, HW1.out⟩
          case measure => simp [intOf]; omega
        case pos =>
          have d2 : (x.person.toList == p.2.toList) = true := by rw [h2]; simp
          have H2 := Lib.hid h2
          clear h2
          by_cases h3 : x.tm ≤ tm
          case neg =>
            have d3 : decide (x.tm ≤ tm) = false := by simpa using h3
            have hN := Lib.hid (show lastP (ts.take (k + 1)) p tm dn = cu from by rw [HX.out, HCU.out, if_neg]; exact fun h => by simp at h; exact h3 h.1.1)
            have HO1 := Lib.hid ho1
            have HW1 := Lib.hid hw1
            clear ho1 hw1
            go_wp2_with fail
            go_roundw
            case rel => exact ⟨k + 1, by omega, by go_num, by rw [hN.out], by rw [hN.out]; exact HO1.out, HW1.out⟩
            case measure => simp [intOf]; omega
          case pos =>
            have d3 : decide (x.tm ≤ tm) = true := by simpa using h3
            have HPP := Lib.hid (show (x.paper, x.person) = p from Prod.ext H1.out H2.out)
            cases dr with
            | true =>
              have hN := Lib.hid (show lastP (ts.take (k + 1)) p tm dn = some (x, aa, ac) from by rw [HX.out, if_pos]; exact by simp [h3, HPP.out, show dn = false from HDN.out])
              obtain ⟨o0, o1, o2, o3, o4, o5, o6, hoe⟩ : ∃ v0 v1 v2 v3 v4 v5 v6 : Value, (encRaw (cu.getD raw0)).toArray = #[v0, v1, v2, v3, v4, v5, v6] := ⟨_, _, _, _, _, _, _, rfl⟩
              rw [hoe] at ho1
              have r0 := cell_at (i := 0) ho1 rfl
              have r1 := cell_at (i := 1) ho1 rfl
              have r2 := cell_at (i := 2) ho1 rfl
              have r3 := cell_at (i := 3) ho1 rfl
              have r4 := cell_at (i := 4) ho1 rfl
              have r5 := cell_at (i := 5) ho1 rfl
              have r6 := cell_at (i := 6) ho1 rfl
              have z0 := frozen_at (i := 0) ho1
              have z1 := frozen_at (i := 1) ho1
              have z2 := frozen_at (i := 2) ho1
              have z3 := frozen_at (i := 3) ho1
              have z4 := frozen_at (i := 4) ho1
              have z5 := frozen_at (i := 5) ho1
              have z6 := frozen_at (i := 6) ho1
              have j0 := heap_setCell_at wa ob 0 (.int .i64 x.no) _ _ _ ho1
              have j1 := heap_setCell_at (wa.setCell ⟨ob, 0, none⟩ (.int .i64 x.no)) ob 1 (.int .i64 x.tm) _ _ _ j0
              have j2 := heap_setCell_at ((wa.setCell ⟨ob, 0, none⟩ (.int .i64 x.no)).setCell ⟨ob, 1, none⟩ (.int .i64 x.tm)) ob 2 (.string x.paper) _ _ _ j1
              have j3 := heap_setCell_at (((wa.setCell ⟨ob, 0, none⟩ (.int .i64 x.no)).setCell ⟨ob, 1, none⟩ (.int .i64 x.tm)).setCell ⟨ob, 2, none⟩ (.string x.paper)) ob 3 (.string x.person) _ _ _ j2
              have j4 := heap_setCell_at ((((wa.setCell ⟨ob, 0, none⟩ (.int .i64 x.no)).setCell ⟨ob, 1, none⟩ (.int .i64 x.tm)).setCell ⟨ob, 2, none⟩ (.string x.paper)).setCell ⟨ob, 3, none⟩ (.string x.person)) ob 4 (.string x.by_) _ _ _ j3
              have j5 := heap_setCell_at (((((wa.setCell ⟨ob, 0, none⟩ (.int .i64 x.no)).setCell ⟨ob, 1, none⟩ (.int .i64 x.tm)).setCell ⟨ob, 2, none⟩ (.string x.paper)).setCell ⟨ob, 3, none⟩ (.string x.person)).setCell ⟨ob, 4, none⟩ (.string x.by_)) ob 5 (.bool x.done) _ _ _ j4
              have j6 := heap_setCell_at ((((((wa.setCell ⟨ob, 0, none⟩ (.int .i64 x.no)).setCell ⟨ob, 1, none⟩ (.int .i64 x.tm)).setCell ⟨ob, 2, none⟩ (.string x.paper)).setCell ⟨ob, 3, none⟩ (.string x.person)).setCell ⟨ob, 4, none⟩ (.string x.by_)).setCell ⟨ob, 5, none⟩ (.bool x.done)) ob 6 (.slice aa x.answers.length ac) _ _ _ j5
              have HO1 := Lib.hid (show (((((((wa.setCell ⟨ob, 0, none⟩ (.int .i64 x.no)).setCell ⟨ob, 1, none⟩ (.int .i64 x.tm)).setCell ⟨ob, 2, none⟩ (.string x.paper)).setCell ⟨ob, 3, none⟩ (.string x.person)).setCell ⟨ob, 4, none⟩ (.string x.by_)).setCell ⟨ob, 5, none⟩ (.bool x.done)).setCell ⟨ob, 6, none⟩ (.slice aa x.answers.length ac)).heap[ob]? = some (.cells #[.int .i64 x.no, .int .i64 x.tm, .string x.paper, .string x.person, .string x.by_, .bool x.done, .slice aa x.answers.length ac] 73 (0, 0)) from by simpa using j6)
              have HW1 := Lib.hid (show Kept (fun j => j ≠ ob) w1 (((((((wa.setCell ⟨ob, 0, none⟩ (.int .i64 x.no)).setCell ⟨ob, 1, none⟩ (.int .i64 x.tm)).setCell ⟨ob, 2, none⟩ (.string x.paper)).setCell ⟨ob, 3, none⟩ (.string x.person)).setCell ⟨ob, 4, none⟩ (.string x.by_)).setCell ⟨ob, 5, none⟩ (.bool x.done)).setCell ⟨ob, 6, none⟩ (.slice aa x.answers.length ac)) from (((((((hw1.then_setCell _ _ (fun h => h rfl)).then_setCell _ _ (fun h => h rfl)).then_setCell _ _ (fun h => h rfl)).then_setCell _ _ (fun h => h rfl)).then_setCell _ _ (fun h => h rfl)).then_setCell _ _ (fun h => h rfl)).then_setCell _ _ (fun h => h rfl)))
              clear hoe ho1 hw1 j0 j1 j2 j3 j4 j5 j6
              go_wp2_with fail
              go_roundw
              case rel => exact ⟨k + 1, by omega, by go_num, by rw [hN.out]; rfl, by rw [hN.out]; exact HO1.out, HW1.out⟩
              case measure => simp [intOf]; omega
            | false =>
              obtain ⟨dv, hdv⟩ : ∃ d, d = x.done := ⟨_, rfl⟩
              cases dv with
              | true =>
                have d4 : x.done = true := hdv.symm
                have HDV := Lib.hid hdv
                clear hdv
                have hN := Lib.hid (show lastP (ts.take (k + 1)) p tm dn = some (x, aa, ac) from by rw [HX.out, if_pos]; exact by simp [h3, HPP.out, d4])
                obtain ⟨o0, o1, o2, o3, o4, o5, o6, hoe⟩ : ∃ v0 v1 v2 v3 v4 v5 v6 : Value, (encRaw (cu.getD raw0)).toArray = #[v0, v1, v2, v3, v4, v5, v6] := ⟨_, _, _, _, _, _, _, rfl⟩
                rw [hoe] at ho1
                have r0 := cell_at (i := 0) ho1 rfl
                have r1 := cell_at (i := 1) ho1 rfl
                have r2 := cell_at (i := 2) ho1 rfl
                have r3 := cell_at (i := 3) ho1 rfl
                have r4 := cell_at (i := 4) ho1 rfl
                have r5 := cell_at (i := 5) ho1 rfl
                have r6 := cell_at (i := 6) ho1 rfl
                have z0 := frozen_at (i := 0) ho1
                have z1 := frozen_at (i := 1) ho1
                have z2 := frozen_at (i := 2) ho1
                have z3 := frozen_at (i := 3) ho1
                have z4 := frozen_at (i := 4) ho1
                have z5 := frozen_at (i := 5) ho1
                have z6 := frozen_at (i := 6) ho1
                have j0 := heap_setCell_at wa ob 0 (.int .i64 x.no) _ _ _ ho1
                have j1 := heap_setCell_at (wa.setCell ⟨ob, 0, none⟩ (.int .i64 x.no)) ob 1 (.int .i64 x.tm) _ _ _ j0
                have j2 := heap_setCell_at ((wa.setCell ⟨ob, 0, none⟩ (.int .i64 x.no)).setCell ⟨ob, 1, none⟩ (.int .i64 x.tm)) ob 2 (.string x.paper) _ _ _ j1
                have j3 := heap_setCell_at (((wa.setCell ⟨ob, 0, none⟩ (.int .i64 x.no)).setCell ⟨ob, 1, none⟩ (.int .i64 x.tm)).setCell ⟨ob, 2, none⟩ (.string x.paper)) ob 3 (.string x.person) _ _ _ j2
                have j4 := heap_setCell_at ((((wa.setCell ⟨ob, 0, none⟩ (.int .i64 x.no)).setCell ⟨ob, 1, none⟩ (.int .i64 x.tm)).setCell ⟨ob, 2, none⟩ (.string x.paper)).setCell ⟨ob, 3, none⟩ (.string x.person)) ob 4 (.string x.by_) _ _ _ j3
                have j5 := heap_setCell_at (((((wa.setCell ⟨ob, 0, none⟩ (.int .i64 x.no)).setCell ⟨ob, 1, none⟩ (.int .i64 x.tm)).setCell ⟨ob, 2, none⟩ (.string x.paper)).setCell ⟨ob, 3, none⟩ (.string x.person)).setCell ⟨ob, 4, none⟩ (.string x.by_)) ob 5 (.bool true) _ _ _ j4
                have j6 := heap_setCell_at ((((((wa.setCell ⟨ob, 0, none⟩ (.int .i64 x.no)).setCell ⟨ob, 1, none⟩ (.int .i64 x.tm)).setCell ⟨ob, 2, none⟩ (.string x.paper)).setCell ⟨ob, 3, none⟩ (.string x.person)).setCell ⟨ob, 4, none⟩ (.string x.by_)).setCell ⟨ob, 5, none⟩ (.bool true)) ob 6 (.slice aa x.answers.length ac) _ _ _ j5
                have HO1 := Lib.hid (show (((((((wa.setCell ⟨ob, 0, none⟩ (.int .i64 x.no)).setCell ⟨ob, 1, none⟩ (.int .i64 x.tm)).setCell ⟨ob, 2, none⟩ (.string x.paper)).setCell ⟨ob, 3, none⟩ (.string x.person)).setCell ⟨ob, 4, none⟩ (.string x.by_)).setCell ⟨ob, 5, none⟩ (.bool true)).setCell ⟨ob, 6, none⟩ (.slice aa x.answers.length ac)).heap[ob]? = some (.cells #[.int .i64 x.no, .int .i64 x.tm, .string x.paper, .string x.person, .string x.by_, .bool true, .slice aa x.answers.length ac] 73 (0, 0)) from by simpa using j6)
                have HW1 := Lib.hid (show Kept (fun j => j ≠ ob) w1 (((((((wa.setCell ⟨ob, 0, none⟩ (.int .i64 x.no)).setCell ⟨ob, 1, none⟩ (.int .i64 x.tm)).setCell ⟨ob, 2, none⟩ (.string x.paper)).setCell ⟨ob, 3, none⟩ (.string x.person)).setCell ⟨ob, 4, none⟩ (.string x.by_)).setCell ⟨ob, 5, none⟩ (.bool true)).setCell ⟨ob, 6, none⟩ (.slice aa x.answers.length ac)) from (((((((hw1.then_setCell _ _ (fun h => h rfl)).then_setCell _ _ (fun h => h rfl)).then_setCell _ _ (fun h => h rfl)).then_setCell _ _ (fun h => h rfl)).then_setCell _ _ (fun h => h rfl)).then_setCell _ _ (fun h => h rfl)).then_setCell _ _ (fun h => h rfl)))
                clear hoe ho1 hw1 j0 j1 j2 j3 j4 j5 j6
                go_wp2_with fail
                go_roundw
                case rel => exact ⟨k + 1, by omega, by go_num, by rw [hN.out]; rfl, by rw [hN.out]; rw [HO1.out, HDV.out]; rfl, HW1.out⟩
                case measure => simp [intOf]; omega
              | false =>
                have d4 : x.done = false := hdv.symm
                clear hdv
                have hN := Lib.hid (show lastP (ts.take (k + 1)) p tm dn = cu from by rw [HX.out, HCU.out, if_neg]; exact fun h => by simp [d4, show dn = true from HDN.out] at h)
                have HO1 := Lib.hid ho1
                have HW1 := Lib.hid hw1
                clear ho1 hw1
                go_wp2_with fail
                go_roundw
                case rel => exact ⟨k + 1, by omega, by go_num, by rw [hN.out], by rw [hN.out]; exact HO1.out, HW1.out⟩
                case measure => simp [intOf]; omega
    · have hd : decide ((k : Int) < (len : Int)) = false := by simp; omega
      have hkl : k = len := by omega
      have hall := Lib.hid (Hend.out _ hwr)
      obtain ⟨-, hR⟩ := HB.out _ hwr
      have hfin := Lib.hid (show cu = lastO ts p tm dn from by rw [HCU.out, lastO_eq, List.take_of_length_le (by have := Hlen.out; omega)])
      obtain ⟨y, hy⟩ : ∃ y, y = cu.getD raw0 := ⟨_, rfl⟩
      have HYY := Lib.hid hy
      rw [← hy] at hcur
      obtain ⟨x, aa, ac⟩ := y
      have q0 := cell_at (i := 0) hcur rfl
      have q1 := cell_at (i := 1) hcur rfl
      have q2 := cell_at (i := 2) hcur rfl
      have q3 := cell_at (i := 3) hcur rfl
      have q4 := cell_at (i := 4) hcur rfl
      have q5 := cell_at (i := 5) hcur rfl
      have q6 := cell_at (i := 6) hcur rfl
      dsimp only [encRaw] at q0 q1 q2 q3 q4 q5 q6
      have r0 := cell_at (i := 0) hR rfl
      have r1 := cell_at (i := 1) hR rfl
      have r2 := cell_at (i := 2) hR rfl
      have r3 := cell_at (i := 3) hR rfl
      have r4 := cell_at (i := 4) hR rfl
      have r5 := cell_at (i := 5) hR rfl
      have r6 := cell_at (i := 6) hR rfl
      have z0 := frozen_at (i := 0) hR
      have z1 := frozen_at (i := 1) hR
      have z2 := frozen_at (i := 2) hR
      have z3 := frozen_at (i := 3) hR
      have z4 := frozen_at (i := 4) hR
      have z5 := frozen_at (i := 5) hR
      have z6 := frozen_at (i := 6) hR
      have j0 := heap_setCell_at wo rb 0 (.int .i64 x.no) _ _ _ hR
      have j1 := heap_setCell_at (wo.setCell ⟨rb, 0, none⟩ (.int .i64 x.no)) rb 1 (.int .i64 x.tm) _ _ _ j0
      have j2 := heap_setCell_at ((wo.setCell ⟨rb, 0, none⟩ (.int .i64 x.no)).setCell ⟨rb, 1, none⟩ (.int .i64 x.tm)) rb 2 (.string x.paper) _ _ _ j1
      have j3 := heap_setCell_at (((wo.setCell ⟨rb, 0, none⟩ (.int .i64 x.no)).setCell ⟨rb, 1, none⟩ (.int .i64 x.tm)).setCell ⟨rb, 2, none⟩ (.string x.paper)) rb 3 (.string x.person) _ _ _ j2
      have j4 := heap_setCell_at ((((wo.setCell ⟨rb, 0, none⟩ (.int .i64 x.no)).setCell ⟨rb, 1, none⟩ (.int .i64 x.tm)).setCell ⟨rb, 2, none⟩ (.string x.paper)).setCell ⟨rb, 3, none⟩ (.string x.person)) rb 4 (.string x.by_) _ _ _ j3
      have j5 := heap_setCell_at (((((wo.setCell ⟨rb, 0, none⟩ (.int .i64 x.no)).setCell ⟨rb, 1, none⟩ (.int .i64 x.tm)).setCell ⟨rb, 2, none⟩ (.string x.paper)).setCell ⟨rb, 3, none⟩ (.string x.person)).setCell ⟨rb, 4, none⟩ (.string x.by_)) rb 5 (.bool x.done) _ _ _ j4
      have j6 := heap_setCell_at ((((((wo.setCell ⟨rb, 0, none⟩ (.int .i64 x.no)).setCell ⟨rb, 1, none⟩ (.int .i64 x.tm)).setCell ⟨rb, 2, none⟩ (.string x.paper)).setCell ⟨rb, 3, none⟩ (.string x.person)).setCell ⟨rb, 4, none⟩ (.string x.by_)).setCell ⟨rb, 5, none⟩ (.bool x.done)) rb 6 (.slice aa x.answers.length ac) _ _ _ j5
      have hr7 : (((((((wo.setCell ⟨rb, 0, none⟩ (.int .i64 x.no)).setCell ⟨rb, 1, none⟩ (.int .i64 x.tm)).setCell ⟨rb, 2, none⟩ (.string x.paper)).setCell ⟨rb, 3, none⟩ (.string x.person)).setCell ⟨rb, 4, none⟩ (.string x.by_)).setCell ⟨rb, 5, none⟩ (.bool x.done)).setCell ⟨rb, 6, none⟩ (.slice aa x.answers.length ac)).heap[rb]? = some (.cells #[.int .i64 x.no, .int .i64 x.tm, .string x.paper, .string x.person, .string x.by_, .bool x.done, .slice aa x.answers.length ac] 73 (0, 0)) := by simpa using j6
      have hkr : Kept (fun j => j ≠ rb) wo (((((((wo.setCell ⟨rb, 0, none⟩ (.int .i64 x.no)).setCell ⟨rb, 1, none⟩ (.int .i64 x.tm)).setCell ⟨rb, 2, none⟩ (.string x.paper)).setCell ⟨rb, 3, none⟩ (.string x.person)).setCell ⟨rb, 4, none⟩ (.string x.by_)).setCell ⟨rb, 5, none⟩ (.bool x.done)).setCell ⟨rb, 6, none⟩ (.slice aa x.answers.length ac)) := ((((((((Kept.refl (fun j => j ≠ rb) wo).then_setCell _ _ (fun h => h rfl)).then_setCell _ _ (fun h => h rfl)).then_setCell _ _ (fun h => h rfl)).then_setCell _ _ (fun h => h rfl)).then_setCell _ _ (fun h => h rfl)).then_setCell _ _ (fun h => h rfl)).then_setCell _ _ (fun h => h rfl))
      have hend := Lib.hid (hall.out.trans2 hkr (fun i hi _ e => by omega))
      have y0 := cell_at (i := 0) hr7 rfl
      have y1 := cell_at (i := 1) hr7 rfl
      have y2 := cell_at (i := 2) hr7 rfl
      have y3 := cell_at (i := 3) hr7 rfl
      have y4 := cell_at (i := 4) hr7 rfl
      have y5 := cell_at (i := 5) hr7 rfl
      have y6 := cell_at (i := 6) hr7 rfl
      clear hwr hcur hR hkr hr7 hy j0 j1 j2 j3 j4 j5 j6
      go_wp2_with fail
      refine bodyPost_ret (v := .tuple #[.agg #[.int .i64 x.no, .int .i64 x.tm, .string x.paper, .string x.person, .string x.by_, .bool x.done, .slice aa x.answers.length ac], .bool cu.isSome]) ?_ rfl ⟨?_, hend.out⟩
      · simp [results, Tryz.results92, go_sem, y0, y1, y2, y3, y4, y5, y6]
      · rw [← hfin.out, ← HYY.out]; rfl

set_option maxRecDepth 100000 in
set_option maxHeartbeats 3200000 in
theorem valid_any (a : Option Addr) (len cap : Nat) (ts : List Raw) (p : K2) (tm : Int) (w : World) (hs : Sl RRaw 7 (fun _ => True) w a len ts) (hl : len ≤ 1000000) :
    Calls Tryz.prog 65 #[.slice a len cap, .agg #[.string p.1, .string p.2], .int .i64 tm] w fun e w' => e = .returned (.tuple #[.agg (encRaw ((lastO ts p tm true).getD raw0)).toArray, .bool (lastO ts p tm true).isSome]) ∧ All w w' := by
  have hk1 : All w ((w.alloc (.cells #[.string p.1, .string p.2] 39)).alloc (.cells #[.int .i64 0, .int .i64 0, .string ⟨#[]⟩, .string ⟨#[]⟩, .string ⟨#[]⟩, .bool false, .slice none 0 0] 73)) := (Kept.alloc _ _ _).then_alloc _
  obtain ⟨rb, hrb⟩ : ∃ k, k = w.heap.size + 1 := ⟨_, rfl⟩
  have bP : ((w.alloc (.cells #[.string p.1, .string p.2] 39)).alloc (.cells #[.int .i64 0, .int .i64 0, .string ⟨#[]⟩, .string ⟨#[]⟩, .string ⟨#[]⟩, .bool false, .slice none 0 0] 73)).heap[w.heap.size]? = some (.cells #[.string p.1, .string p.2] 39 (0, 0)) := heap_old _ (heap_at w (.cells #[.string p.1, .string p.2] 39) _ rfl)
  have bR : ((w.alloc (.cells #[.string p.1, .string p.2] 39)).alloc (.cells #[.int .i64 0, .int .i64 0, .string ⟨#[]⟩, .string ⟨#[]⟩, .string ⟨#[]⟩, .bool false, .slice none 0 0] 73)).heap[rb]? = some (.cells #[.int .i64 0, .int .i64 0, .string ⟨#[]⟩, .string ⟨#[]⟩, .string ⟨#[]⟩, .bool false, .slice none 0 0] 73 (0, 0)) := heap_at _ (.cells #[.int .i64 0, .int .i64 0, .string ⟨#[]⟩, .string ⟨#[]⟩, .string ⟨#[]⟩, .bool false, .slice none 0 0] 73) rb (by simp [hrb])
  have HRB := Lib.hid hrb
  have hrw : w.heap.size ≤ rb := by omega
  have HL := Lib.hid (lastR_any a len cap ts p tm false _ (hs.keep RRaw.ok hk1) hl)
  have e0 := cell_at (i := 0) bP rfl
  have e1 := cell_at (i := 1) bP rfl
  clear hs hrb bP
  go_enter Tryz.func65, Tryz.ntmps65
  go_wp2_with fail
  simp only [← HRB.out]
  generalize ((w.alloc (.cells #[.string p.1, .string p.2] 39)).alloc (.cells #[.int .i64 0, .int .i64 0, .string ⟨#[]⟩, .string ⟨#[]⟩, .string ⟨#[]⟩, .bool false, .slice none 0 0] 73)) = w1 at *
  refine HL.out.mono ?_
  rintro e w2 ⟨rfl, hw2⟩
  rw [show (!false) = true from rfl]
  obtain ⟨is, his⟩ : ∃ i, i = (lastO ts p tm true).isSome := ⟨_, rfl⟩
  have HIS := Lib.hid his
  rw [← his]
  obtain ⟨y, hy⟩ : ∃ y, y = (lastO ts p tm true).getD raw0 := ⟨_, rfl⟩
  have HYY := Lib.hid hy
  rw [← hy]
  obtain ⟨x, aa, ac⟩ := y
  rw [show (encRaw (x, aa, ac)).toArray = #[.int .i64 x.no, .int .i64 x.tm, .string x.paper, .string x.person, .string x.by_, .bool x.done, .slice aa x.answers.length ac] from rfl]
  have hR := hw2.heap bR trivial
  have hall := hk1.trans hw2
  clear his hy e0 e1 bR hk1
  have r0 := cell_at (i := 0) hR rfl
  have r1 := cell_at (i := 1) hR rfl
  have r2 := cell_at (i := 2) hR rfl
  have r3 := cell_at (i := 3) hR rfl
  have r4 := cell_at (i := 4) hR rfl
  have r5 := cell_at (i := 5) hR rfl
  have r6 := cell_at (i := 6) hR rfl
  have z0 := frozen_at (i := 0) hR
  have z1 := frozen_at (i := 1) hR
  have z2 := frozen_at (i := 2) hR
  have z3 := frozen_at (i := 3) hR
  have z4 := frozen_at (i := 4) hR
  have z5 := frozen_at (i := 5) hR
  have z6 := frozen_at (i := 6) hR
  have j0 := heap_setCell_at w2 rb 0 (.int .i64 x.no) _ _ _ hR
  have j1 := heap_setCell_at (w2.setCell ⟨rb, 0, none⟩ (.int .i64 x.no)) rb 1 (.int .i64 x.tm) _ _ _ j0
  have j2 := heap_setCell_at ((w2.setCell ⟨rb, 0, none⟩ (.int .i64 x.no)).setCell ⟨rb, 1, none⟩ (.int .i64 x.tm)) rb 2 (.string x.paper) _ _ _ j1
  have j3 := heap_setCell_at (((w2.setCell ⟨rb, 0, none⟩ (.int .i64 x.no)).setCell ⟨rb, 1, none⟩ (.int .i64 x.tm)).setCell ⟨rb, 2, none⟩ (.string x.paper)) rb 3 (.string x.person) _ _ _ j2
  have j4 := heap_setCell_at ((((w2.setCell ⟨rb, 0, none⟩ (.int .i64 x.no)).setCell ⟨rb, 1, none⟩ (.int .i64 x.tm)).setCell ⟨rb, 2, none⟩ (.string x.paper)).setCell ⟨rb, 3, none⟩ (.string x.person)) rb 4 (.string x.by_) _ _ _ j3
  have j5 := heap_setCell_at (((((w2.setCell ⟨rb, 0, none⟩ (.int .i64 x.no)).setCell ⟨rb, 1, none⟩ (.int .i64 x.tm)).setCell ⟨rb, 2, none⟩ (.string x.paper)).setCell ⟨rb, 3, none⟩ (.string x.person)).setCell ⟨rb, 4, none⟩ (.string x.by_)) rb 5 (.bool x.done) _ _ _ j4
  have j6 := heap_setCell_at ((((((w2.setCell ⟨rb, 0, none⟩ (.int .i64 x.no)).setCell ⟨rb, 1, none⟩ (.int .i64 x.tm)).setCell ⟨rb, 2, none⟩ (.string x.paper)).setCell ⟨rb, 3, none⟩ (.string x.person)).setCell ⟨rb, 4, none⟩ (.string x.by_)).setCell ⟨rb, 5, none⟩ (.bool x.done)) rb 6 (.slice aa x.answers.length ac) _ _ _ j5
  have hr7 : (((((((w2.setCell ⟨rb, 0, none⟩ (.int .i64 x.no)).setCell ⟨rb, 1, none⟩ (.int .i64 x.tm)).setCell ⟨rb, 2, none⟩ (.string x.paper)).setCell ⟨rb, 3, none⟩ (.string x.person)).setCell ⟨rb, 4, none⟩ (.string x.by_)).setCell ⟨rb, 5, none⟩ (.bool x.done)).setCell ⟨rb, 6, none⟩ (.slice aa x.answers.length ac)).heap[rb]? = some (.cells #[.int .i64 x.no, .int .i64 x.tm, .string x.paper, .string x.person, .string x.by_, .bool x.done, .slice aa x.answers.length ac] 73 (0, 0)) := by simpa using j6
  have hkr : Kept (fun j => j ≠ rb) w2 (((((((w2.setCell ⟨rb, 0, none⟩ (.int .i64 x.no)).setCell ⟨rb, 1, none⟩ (.int .i64 x.tm)).setCell ⟨rb, 2, none⟩ (.string x.paper)).setCell ⟨rb, 3, none⟩ (.string x.person)).setCell ⟨rb, 4, none⟩ (.string x.by_)).setCell ⟨rb, 5, none⟩ (.bool x.done)).setCell ⟨rb, 6, none⟩ (.slice aa x.answers.length ac)) := ((((((((Kept.refl (fun j => j ≠ rb) w2).then_setCell _ _ (fun h => h rfl)).then_setCell _ _ (fun h => h rfl)).then_setCell _ _ (fun h => h rfl)).then_setCell _ _ (fun h => h rfl)).then_setCell _ _ (fun h => h rfl)).then_setCell _ _ (fun h => h rfl)).then_setCell _ _ (fun h => h rfl))
  have hend := Lib.hid (hall.trans2 hkr (fun i hi _ e => by omega))
  have y0 := cell_at (i := 0) hr7 rfl
  have y1 := cell_at (i := 1) hr7 rfl
  have y2 := cell_at (i := 2) hr7 rfl
  have y3 := cell_at (i := 3) hr7 rfl
  have y4 := cell_at (i := 4) hr7 rfl
  have y5 := cell_at (i := 5) hr7 rfl
  have y6 := cell_at (i := 6) hr7 rfl
  clear hR hkr hr7 hall j0 j1 j2 j3 j4 j5 j6
  go_wp2_with fail
  refine bodyPost_ret (v := .tuple #[.agg #[.int .i64 x.no, .int .i64 x.tm, .string x.paper, .string x.person, .string x.by_, .bool x.done, .slice aa x.answers.length ac], .bool is]) ?_ rfl ⟨?_, hend.out⟩
  · simp [results, Tryz.results65, go_sem, y0, y1, y2, y3, y4, y5, y6]
  · rw [← HIS.out, ← HYY.out]; rfl
end Go.Proofs.YtjbaijgdkkccbaaGreatDoor
