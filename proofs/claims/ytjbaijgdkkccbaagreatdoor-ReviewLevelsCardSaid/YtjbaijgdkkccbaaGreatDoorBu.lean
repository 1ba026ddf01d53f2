/- The generator Setup10. -/
import Derived.Test.YtjbaijgdkkccbaaGreatDoorBt
import Derived.Test.YtjbaijgdkkccbaaGreatDoorBo
namespace Go.Proofs.YtjbaijgdkkccbaaGreatDoor
open Go.RowKit

/-- A setup that reads well lies in block bb. -/
def DoneS (σ : St) (bb rb : Nat) (w0 wx : World) (n c : Nat) : Prop := ∃ (a0 a1 a2 a3 a4 : Option Addr) (c0 c1 c2 c3 c4 : Nat) (s : Set7) (n' : Nat),
  wx.heap[bb]? = some (.cells (setC (.slice a0 s.sheet.length c0) (.slice a1 s.papers.length c1) (.slice a2 s.pairs.length c2) (.slice a3 s.barred.length c3) (.slice a4 s.chairs.length c4) s) 31 (0, 0)) ∧ wx.heap[rb]? = some (.cells #[.slice none 0 0, .slice none 0 0, .slice none 0 0, .slice none 0 0, .slice none 0 0, .int .i64 0, .int .i64 0] 31 (0, 0)) ∧ SetIs (fun k => k ≠ σ.b) wx a0 s.sheet.length a1 s.papers.length a2 s.pairs.length a3 s.barred.length a4 s.chairs.length s ∧ (s.sheet.length ≤ 30 ∧ s.papers.length ≤ 30 ∧ s.pairs.length ≤ 30 ∧ s.barred.length ≤ 30 ∧ s.chairs.length ≤ 30) ∧ Str σ wx n' ∧ n ≤ n' ∧ n' ≤ n + c ∧ But σ.b w0 wx
theorem slice_ns (a : Option Addr) (l c : Nat) : ∀ z, Value.slice a l c ≠ .string z := fun z h => by cases h
theorem SetAcc.isS {σ : St} {B B1 B2 : Nat} {a0 a1 a2 a3 a4 : Option Addr} {c0 c1 c2 c3 c4 : Nat} {s : Set7} {w : World} (h : SetAcc σ B B1 B2 (.slice a0 s.sheet.length c0) (.slice a1 s.papers.length c1) (.slice a2 s.pairs.length c2) (.slice a3 s.barred.length c3) (.slice a4 s.chairs.length c4) s w) (h0 : s.sheet.length ≤ 1000) (h1 : s.papers.length ≤ 1000) (h2 : s.pairs.length ≤ 1000000) (h3 : s.barred.length ≤ 1000000) (h4 : s.chairs.length ≤ 1000000) : SetIs (fun k => k ≠ σ.b) w a0 s.sheet.length a1 s.papers.length a2 s.pairs.length a3 s.barred.length a4 s.chairs.length s := by
  obtain ⟨b0, d0, b1, d1, b2, d2, b3, d3, b4, d4, e0, e1, e2, e3, e4, his⟩ := h.is h0 h1 h2 h3 h4
  injection e0 with p0; injection e1 with p1; injection e2 with p2; injection e3 with p3; injection e4 with p4
  subst p0 p1 p2 p3 p4
  exact his
theorem MkS.done {σ : St} {bb B B1 B2 rb n m c : Nat} {v0 v1 v2 v3 v4 : Value} {s : Set7} {w0 wx : World} (h : MkS σ bb B B1 B2 v0 v1 v2 v3 v4 s w0 wx rb m) (hb : s.sheet.length ≤ 30 ∧ s.papers.length ≤ 30 ∧ s.pairs.length ≤ 30 ∧ s.barred.length ≤ 30 ∧ s.chairs.length ≤ 30) (h1 : n ≤ m) (h2 : m ≤ n + c) : DoneS σ bb rb w0 wx n c := by
  obtain ⟨b0, b1, b2, b3, b4⟩ := hb
  obtain ⟨a0, c0, a1, c1, a2, c2, a3, c3, a4, c4, rfl, rfl, rfl, rfl, rfl, his⟩ := h.acc.is (by omega) (by omega) (by omega) (by omega) (by omega)
  exact ⟨a0, a1, a2, a3, a4, c0, c1, c2, c3, c4, s, m, h.blk, h.rblk, his, ⟨b0, b1, b2, b3, b4⟩, h.st, h1, h2, h.bt⟩
/-- A store into the setup's block, by which it reads as s'. -/
theorem doneS_put {σ : St} {bb rb n m c i : Nat} {u : Value} {cs : Array Value} {w0 wx : World} (a0 a1 a2 a3 a4 : Option Addr) (c0 c1 c2 c3 c4 : Nat) (s : Set7)
    (hb : wx.heap[bb]? = some (.cells cs 31 (0, 0))) (hn : NoStr wx bb) (hr : wx.heap[rb]? = some (.cells #[.slice none 0 0, .slice none 0 0, .slice none 0 0, .slice none 0 0, .slice none 0 0, .int .i64 0, .int .i64 0] 31 (0, 0))) (his : SetIs (fun k => k ≠ σ.b) wx a0 s.sheet.length a1 s.papers.length a2 s.pairs.length a3 s.barred.length a4 s.chairs.length s) (hbd : s.sheet.length ≤ 30 ∧ s.papers.length ≤ 30 ∧ s.pairs.length ≤ 30 ∧ s.barred.length ≤ 30 ∧ s.chairs.length ≤ 30) (hc : cs.setIfInBounds i u = setC (.slice a0 s.sheet.length c0) (.slice a1 s.papers.length c1) (.slice a2 s.pairs.length c2) (.slice a3 s.barred.length c3) (.slice a4 s.chairs.length c4) s) (hst : Str σ wx m) (hbt : But σ.b w0 wx) (h1 : n ≤ m) (h2 : m ≤ n + c) (hσ : σ.b < w0.heap.size) (hw : w0.heap.size ≤ rb) (hrb : rb < bb) :
    DoneS σ bb rb w0 (wx.setCell ⟨bb, i, none⟩ u) n c := by
  have k2 : Kept (fun k => k ≠ bb) wx (wx.setCell ⟨bb, i, none⟩ u) := Kept.setCell _ _ _ (fun h => h rfl)
  refine ⟨a0, a1, a2, a3, a4, c0, c1, c2, c3, c4, s, m, ?_, k2.heap hr (by omega), his.past hn k2, hbd, hst.set _ _ (by dsimp only; omega), h1, h2, hbt.then_setNew _ _ (by dsimp only; omega)⟩
  rw [← hc]
  exact heap_setCell_at _ _ _ _ _ _ _ hb
/-- A pair; a row of one pair. -/
def PPrV (v : Value) (_ : World) : Prop := ∃ y : Pair2, v = .agg #[.string y.paper, .string y.person]
theorem PPrV.stays (σ : St) : Stays (fun w w' => But σ.b w w') PPrV := fun _ _ _ _ h => h
def PPrR (σ : St) (v : Value) (w : World) : Prop := ∃ (y : Pair2) (b : Nat), v = .slice (some ⟨b, 0, none⟩) 1 1 ∧ b ≠ σ.b ∧ w.heap[b]? = some (.cells #[.string y.paper, .string y.person] 39 (0, 0))
theorem PPrR.stays (σ : St) : Stays (fun w w' => But σ.b w w') (PPrR σ) := fun _ _ _ k ⟨y, b, h1, h2, h3⟩ => ⟨y, b, h1, h2, k.heap h3 h2⟩
theorem setC_ns {a0 a1 a2 a3 a4 : Option Addr} {l0 l1 l2 l3 l4 c0 c1 c2 c3 c4 : Nat} {s : Set7} : ∀ v ∈ (setC (.slice a0 l0 c0) (.slice a1 l1 c1) (.slice a2 l2 c2) (.slice a3 l3 c3) (.slice a4 l4 c4) s).toList, ∀ z, v ≠ .string z := setC_noStr (slice_ns _ _ _) (slice_ns _ _ _) (slice_ns _ _ _) (slice_ns _ _ _) (slice_ns _ _ _)

/-- The block that an append to a row may change. -/
theorem gk_any {α : Type} {R : Rel α} {sz : Nat} {T : TypeId} {G : Nat → Prop} {C : Nat} {xs : List α} {σ : St} {bb B B1 B2 rb n : Nat} {v0 v1 v2 v3 v4 : Value} {s : Set7} {w0 wx : World} (h : MkS σ bb B B1 B2 v0 v1 v2 v3 v4 s w0 wx rb n) (_ : Nat) {a : Option Addr} {l c : Nat} (ha : Acc R sz T G C wx (.slice a l c) xs) (hC : w0.heap.size ≤ C) (hT : T ≠ 31) :
    ∃ g, (∀ k, (Value.slice a l c).ownBlock = some k → k = g) ∧ w0.heap.size ≤ g ∧ g ≠ bb ∧ g ≠ rb := by
  have h1 := (Array.getElem?_eq_some_iff.1 h.blk).1
  have h2 := (Array.getElem?_eq_some_iff.1 h.rblk).1
  have h3 := h.bt.size
  cases a with
  | none => exact ⟨wx.heap.size, fun k h => (by cases h), by omega, by omega, by omega⟩
  | some g => exact ⟨g.block, fun k h => (Option.some.inj h).symm, by have := (ha.lt _ rfl).1; omega, ha.notType h.blk hT _ rfl, ha.notType h.rblk hT _ rfl⟩
/-- Behind an append to the chairs. -/
theorem MkS.grow4 {σ : St} {bb B B1 B2 rb m n c g : Nat} {v0 v1 v2 v3 v4 u : Value} {s : Set7} {w0 wx W w9 : World} {ps : List ByteArray} (h : MkS σ bb B B1 B2 v0 v1 v2 v3 v4 s w0 wx rb m) (hW : All wx W) (hg : W.grownBy w9 v4.ownBlock) (hacc : Acc RStr 1 9 (fun _ => False) B w9 u ps) (hbd : s.sheet.length ≤ 30 ∧ s.papers.length ≤ 30 ∧ s.pairs.length ≤ 30 ∧ s.barred.length ≤ 30 ∧ s.chairs.length ≤ 30)
    (hk : Kept (fun k => k ≠ g) wx w9) (hgb : g ≠ bb) (hgr : g ≠ rb) (hgv : ∀ k, v4.ownBlock = some k → k = g) (hgw : w0.heap.size ≤ g) (hpl : ps.length ≤ 30) (h1 : n ≤ m) (h2 : m ≤ n + c) (_ : True = True) : DoneS σ bb rb w0 (w9.setCell ⟨bb, 4, none⟩ u) n c := by
  obtain ⟨b0, b1, b2, b3, b4⟩ := hbd
  have hB := h.acc.hB
  have hB1 := h.acc.hB1
  have hB2 := h.acc.hB2
  have e1 := h.h1; have e2 := h.h2; have e3 := h.h3
  have hk4 : Kept (fun k => v4.ownBlock ≠ some k) wx w9 := (hW.all).grown hg (fun k hk => Or.inr (fun h => h hk))
  have hlt := h.acc.a4.lt
  obtain ⟨a0, c0, rfl, s0⟩ := (h.acc.a0.keep RQst.ok hk4 (fun k hk => hk.2.2) (h.acc.a0.sep h.acc.a4 (by decide))).sl RQst.ok (by decide) (G := fun k => k ≠ σ.b) (fun _ h => h.1) (fun j hj => by have := (h.acc.a0.lt j hj).1; omega)
  obtain ⟨a1, c1, rfl, s1⟩ := (h.acc.a1.keep RPap.ok hk4 (fun k hk => hk.2.2) (h.acc.a1.sep h.acc.a4 (by decide))).sl RPap.ok (by decide) (G := fun k => k ≠ σ.b) (fun _ h => h.1) (fun j hj => by have := (h.acc.a1.lt j hj).1; omega)
  obtain ⟨a2, c2, rfl, s2⟩ := (h.acc.a2.keep RPair.ok hk4 (fun _ h => h.elim) (h.acc.a2.sep h.acc.a4 (by decide))).sl RPair.ok (by decide) (G := fun k => k ≠ σ.b) (fun _ h => h.elim) (fun j hj => by have := (h.acc.a2.lt j hj).1; omega)
  obtain ⟨a3, c3, rfl, s3⟩ := (h.acc.a3.keep RPair.ok hk4 (fun _ h => h.elim) (h.acc.a3.sep h.acc.a4 (by decide))).sl RPair.ok (by decide) (G := fun k => k ≠ σ.b) (fun _ h => h.elim) (fun j hj => by have := (h.acc.a3.lt j hj).1; omega)
  obtain ⟨a4, c4, rfl, s4⟩ := hacc.sl RStr.ok (by decide) (G := fun k => k ≠ σ.b) (fun _ h => h.elim) (fun j hj => by have := (hacc.lt j hj).1; omega)
  have hb9 := hk.heap h.blk (fun e => hgb e.symm)
  have hr9 := hk.heap h.rblk (fun e => hgr e.symm)
  have hnb : NoStr w9 bb := NoStr.of hb9 (setC_noStr (slice_ns _ _ _) (slice_ns _ _ _) (slice_ns _ _ _) (slice_ns _ _ _) h.acc.a4.noStr)
  have hσg : ∀ k, k ≤ σ.b → v4.ownBlock ≠ some k := fun k hk e => by have := (hlt k e).1; omega
  exact doneS_put a0 a1 a2 a3 a4 c0 c1 c2 c3 c4 ⟨s.sheet, s.papers, s.pairs, s.barred, ps, s.due, s.reply⟩ hb9 hnb hr9 ⟨s0, s1, s2, s3, s4, by show s.sheet.length ≤ 1000; omega, by show s.papers.length ≤ 1000; omega, by show s.pairs.length ≤ 1000000; omega, by show s.barred.length ≤ 1000000; omega, by show ps.length ≤ 1000000; omega⟩ ⟨b0, b1, b2, b3, hpl⟩ rfl (h.st.kept hk4 hσg) (h.bt.trans2 hk4 (fun k hk _ e => by have := hgv k e; omega)) h1 h2 e1 e2 e3

set_option maxRecDepth 100000 in
set_option maxHeartbeats 12800000 in
theorem setup10_any (σ : St) (n0 : Nat) (w0 : World) (hs0 : Str σ w0 n0) (hn : n0 ≤ 4611686018427200000) (hg : ∀ wx, But σ.b w0 wx → Glob wx) :
    Calls Tryz.prog 56 #[.pointer (some ⟨σ.b, 0, none⟩)] w0 (StPost σ n0 500 w0 (PSet σ)) := by
  have hl0 := hs0.lt
  have HG := Lib.hid hg
  clear hg
  go_enter Tryz.func56, Tryz.ntmps56
  have hk1 : All w0 (w0.alloc (.cells #[.slice none 0 0, .slice none 0 0, .slice none 0 0, .slice none 0 0, .slice none 0 0, .int .i64 0, .int .i64 0] 31)) := Kept.alloc _ _ _
  have hr1 := heap_at w0 (.cells #[.slice none 0 0, .slice none 0 0, .slice none 0 0, .slice none 0 0, .slice none 0 0, .int .i64 0, .int .i64 0] 31) _ rfl
  have hs1 := hs0.keep hk1
  have hw1 : But σ.b w0 _ := hk1.all
  obtain ⟨rb, hrb⟩ : ∃ b, b = w0.heap.size := ⟨_, rfl⟩
  have HRB := Lib.hid hrb
  rw [← hrb] at hr1
  have hrs : σ.b < rb := by omega
  have hrb0 : w0.heap.size ≤ rb := by omega
  have hz01 : w0.heap.size ≤ (w0.alloc (.cells #[.slice none 0 0, .slice none 0 0, .slice none 0 0, .slice none 0 0, .slice none 0 0, .int .i64 0, .int .i64 0] 31)).heap.size := by simp
  have hrb1 : rb < (w0.alloc (.cells #[.slice none 0 0, .slice none 0 0, .slice none 0 0, .slice none 0 0, .slice none 0 0, .int .i64 0, .int .i64 0] 31)).heap.size := by rw [hrb]; simp
  clear hrb
  go_upto_region 1 with fail
  simp only [← HRB.out]
  generalize w0.alloc (.cells #[.slice none 0 0, .slice none 0 0, .slice none 0 0, .slice none 0 0, .slice none 0 0, .int .i64 0, .int .i64 0] 31) = w1 at *
  have hl1 := hs1.lt
  clear hk1 hs0
  go_wp2_with fail
  refine (rightSetup_any σ n0 _ hs1 (by omega) (fun wx k => HG.out wx (hw1.trans k))).mono ?_
  rintro e w2 ⟨v, n2, rfl, ⟨v0, v1, v2, v3, v4, s, B1, B2, rfl, hac, hB2, hq0, hq1, hq2, hq3, hq4⟩, hA2, hB2', hs2, hb2⟩
  have hw2 := hw1.trans hb2
  have hr2 := hb2.heap hr1 (by omega)
  have hz12 := hb2.size
  have hz2 := hw2.size
  clear hr1 hs1 hw1 hb2
  have hl2 := hs2.lt
  obtain ⟨a0, c0, hv0, -⟩ := hac.a0.form
  obtain ⟨l0, hle0⟩ : ∃ l, l = s.sheet.length := ⟨_, rfl⟩
  have HL0 := Lib.hid hle0
  rw [← hle0] at hv0
  subst hv0
  clear hle0
  obtain ⟨a1, c1, hv1, -⟩ := hac.a1.form
  obtain ⟨l1, hle1⟩ : ∃ l, l = s.papers.length := ⟨_, rfl⟩
  have HL1 := Lib.hid hle1
  rw [← hle1] at hv1
  subst hv1
  clear hle1
  obtain ⟨a2, c2, hv2, -⟩ := hac.a2.form
  obtain ⟨l2, hle2⟩ : ∃ l, l = s.pairs.length := ⟨_, rfl⟩
  have HL2 := Lib.hid hle2
  rw [← hle2] at hv2
  subst hv2
  clear hle2
  obtain ⟨a3, c3, hv3, -⟩ := hac.a3.form
  obtain ⟨l3, hle3⟩ : ∃ l, l = s.barred.length := ⟨_, rfl⟩
  have HL3 := Lib.hid hle3
  rw [← hle3] at hv3
  subst hv3
  clear hle3
  obtain ⟨a4, c4, hv4, -⟩ := hac.a4.form
  obtain ⟨l4, hle4⟩ : ∃ l, l = s.chairs.length := ⟨_, rfl⟩
  have HL4 := Lib.hid hle4
  rw [← hle4] at hv4
  subst hv4
  clear hle4
  have hk3 : All w2 (w2.alloc (.cells (setC (.slice a0 l0 c0) (.slice a1 l1 c1) (.slice a2 l2 c2) (.slice a3 l3 c3) (.slice a4 l4 c4) s) 31)) := Kept.alloc _ _ _
  have hb3 := heap_at w2 (.cells (setC (.slice a0 l0 c0) (.slice a1 l1 c1) (.slice a2 l2 c2) (.slice a3 l3 c3) (.slice a4 l4 c4) s) 31) _ rfl
  obtain ⟨bb, hbb⟩ : ∃ b, b = w2.heap.size := ⟨_, rfl⟩
  have HBB := Lib.hid hbb
  rw [← hbb] at hb3
  have hrbb : rb < bb := by omega
  have HM := Lib.hid (show MkS σ bb w1.heap.size B1 B2 (.slice a0 l0 c0) (.slice a1 l1 c1) (.slice a2 l2 c2) (.slice a3 l3 c3) (.slice a4 l4 c4) s w0 (w2.alloc (.cells (setC (.slice a0 l0 c0) (.slice a1 l1 c1) (.slice a2 l2 c2) (.slice a3 l3 c3) (.slice a4 l4 c4) s) 31)) rb n2 from ⟨hac.keep hk3.all, hb3, hk3.heap hr2 trivial, hs2.keep hk3, hw2.trans hk3.all, hl0, hrb0, hrbb⟩)
  have hB3 : B2 ≤ (w2.alloc (.cells (setC (.slice a0 l0 c0) (.slice a1 l1 c1) (.slice a2 l2 c2) (.slice a3 l3 c3) (.slice a4 l4 c4) s) 31)).heap.size := by simp; omega
  have hz13 : w1.heap.size ≤ (w2.alloc (.cells (setC (.slice a0 l0 c0) (.slice a1 l1 c1) (.slice a2 l2 c2) (.slice a3 l3 c3) (.slice a4 l4 c4) s) 31)).heap.size := by simp; omega
  clear hbb hac hk3 hb3 hr2 hs2 hw2 hB2
  go_upto_region 2 with fail
  simp only [← HBB.out]
  generalize w2.alloc (.cells (setC (.slice a0 l0 c0) (.slice a1 l1 c1) (.slice a2 l2 c2) (.slice a3 l3 c3) (.slice a4 l4 c4) s) 31) = w3 at *
  have hst := HM.out.st
  go_wp2_with fail
  refine (flip_any σ n2 12 _ hst (by omega) (by omega) (by omega)).mono ?_
  rintro e w4 ⟨v, n4, rfl, ⟨fl, rfl⟩, hA4, hB4, hs4, hb4⟩
  have hm4 := HM.out.keep hb4 hs4
  have hB4' : B2 ≤ w4.heap.size := by have := hb4.size; omega
  have hz14 : w1.heap.size ≤ w4.heap.size := by have := hb4.size; omega
  clear HM hst hb4 hB3
  cases fl with
  | false =>
    have hd := hm4.done (n := n0) (c := 400) ⟨by omega, by omega, by omega, by omega, by omega⟩ (by omega) (by omega)
    clear hm4 hs4
    obtain ⟨pa0, pa1, pa2, pa3, pa4, pc0, pc1, pc2, pc3, pc4, sx, n9, hbk, hrbk, his, hbd, hst, hnA, hnB, hbt⟩ := hd
    obtain ⟨y0, hy0⟩ : ∃ l, l = sx.sheet.length := ⟨_, rfl⟩
    have HY0 := Lib.hid hy0
    obtain ⟨y1, hy1⟩ : ∃ l, l = sx.papers.length := ⟨_, rfl⟩
    have HY1 := Lib.hid hy1
    obtain ⟨y2, hy2⟩ : ∃ l, l = sx.pairs.length := ⟨_, rfl⟩
    have HY2 := Lib.hid hy2
    obtain ⟨y3, hy3⟩ : ∃ l, l = sx.barred.length := ⟨_, rfl⟩
    have HY3 := Lib.hid hy3
    obtain ⟨y4, hy4⟩ : ∃ l, l = sx.chairs.length := ⟨_, rfl⟩
    have HY4 := Lib.hid hy4
    rw [← hy0, ← hy1, ← hy2, ← hy3, ← hy4] at hbk his
    clear hy0 hy1 hy2 hy3 hy4
    have hke : Kept (fun k => k ≠ rb) w4 (((((((w4.setCell ⟨rb, 0, none⟩ (.slice pa0 y0 pc0)).setCell ⟨rb, 1, none⟩ (.slice pa1 y1 pc1)).setCell ⟨rb, 2, none⟩ (.slice pa2 y2 pc2)).setCell ⟨rb, 3, none⟩ (.slice pa3 y3 pc3)).setCell ⟨rb, 4, none⟩ (.slice pa4 y4 pc4)).setCell ⟨rb, 5, none⟩ (.int .i64 sx.due)).setCell ⟨rb, 6, none⟩ (.int .i64 sx.reply)) := (((((((Kept.refl _ _).then_setCell _ _ (fun h => h rfl)).then_setCell _ _ (fun h => h rfl)).then_setCell _ _ (fun h => h rfl)).then_setCell _ _ (fun h => h rfl)).then_setCell _ _ (fun h => h rfl)).then_setCell _ _ (fun h => h rfl)).then_setCell _ _ (fun h => h rfl)
    have hrn : NoStr w4 rb := NoStr.of hrbk (by intro v hv z; simp at hv; rcases hv with rfl | rfl | rfl <;> exact fun h => by cases h)
    have hac := Lib.hid (his.past hrn hke)
    have hfs := Lib.hid (((((((hst.set ⟨rb, 0, none⟩ (.slice pa0 y0 pc0) (by dsimp only; omega)).set ⟨rb, 1, none⟩ (.slice pa1 y1 pc1) (by dsimp only; omega)).set ⟨rb, 2, none⟩ (.slice pa2 y2 pc2) (by dsimp only; omega)).set ⟨rb, 3, none⟩ (.slice pa3 y3 pc3) (by dsimp only; omega)).set ⟨rb, 4, none⟩ (.slice pa4 y4 pc4) (by dsimp only; omega)).set ⟨rb, 5, none⟩ (.int .i64 sx.due) (by dsimp only; omega)).set ⟨rb, 6, none⟩ (.int .i64 sx.reply) (by dsimp only; omega))
    have hfw := Lib.hid (((((((hbt.then_setNew ⟨rb, 0, none⟩ (.slice pa0 y0 pc0) (by dsimp only; omega)).then_setNew ⟨rb, 1, none⟩ (.slice pa1 y1 pc1) (by dsimp only; omega)).then_setNew ⟨rb, 2, none⟩ (.slice pa2 y2 pc2) (by dsimp only; omega)).then_setNew ⟨rb, 3, none⟩ (.slice pa3 y3 pc3) (by dsimp only; omega)).then_setNew ⟨rb, 4, none⟩ (.slice pa4 y4 pc4) (by dsimp only; omega)).then_setNew ⟨rb, 5, none⟩ (.int .i64 sx.due) (by dsimp only; omega)).then_setNew ⟨rb, 6, none⟩ (.int .i64 sx.reply) (by dsimp only; omega))
    have j0 := heap_setCell_at w4 rb 0 (.slice pa0 y0 pc0) _ _ _ hrbk
    have j1 := heap_setCell_at (w4.setCell ⟨rb, 0, none⟩ (.slice pa0 y0 pc0)) rb 1 (.slice pa1 y1 pc1) _ _ _ j0
    have j2 := heap_setCell_at ((w4.setCell ⟨rb, 0, none⟩ (.slice pa0 y0 pc0)).setCell ⟨rb, 1, none⟩ (.slice pa1 y1 pc1)) rb 2 (.slice pa2 y2 pc2) _ _ _ j1
    have j3 := heap_setCell_at (((w4.setCell ⟨rb, 0, none⟩ (.slice pa0 y0 pc0)).setCell ⟨rb, 1, none⟩ (.slice pa1 y1 pc1)).setCell ⟨rb, 2, none⟩ (.slice pa2 y2 pc2)) rb 3 (.slice pa3 y3 pc3) _ _ _ j2
    have j4 := heap_setCell_at ((((w4.setCell ⟨rb, 0, none⟩ (.slice pa0 y0 pc0)).setCell ⟨rb, 1, none⟩ (.slice pa1 y1 pc1)).setCell ⟨rb, 2, none⟩ (.slice pa2 y2 pc2)).setCell ⟨rb, 3, none⟩ (.slice pa3 y3 pc3)) rb 4 (.slice pa4 y4 pc4) _ _ _ j3
    have j5 := heap_setCell_at (((((w4.setCell ⟨rb, 0, none⟩ (.slice pa0 y0 pc0)).setCell ⟨rb, 1, none⟩ (.slice pa1 y1 pc1)).setCell ⟨rb, 2, none⟩ (.slice pa2 y2 pc2)).setCell ⟨rb, 3, none⟩ (.slice pa3 y3 pc3)).setCell ⟨rb, 4, none⟩ (.slice pa4 y4 pc4)) rb 5 (.int .i64 sx.due) _ _ _ j4
    have j6 := heap_setCell_at ((((((w4.setCell ⟨rb, 0, none⟩ (.slice pa0 y0 pc0)).setCell ⟨rb, 1, none⟩ (.slice pa1 y1 pc1)).setCell ⟨rb, 2, none⟩ (.slice pa2 y2 pc2)).setCell ⟨rb, 3, none⟩ (.slice pa3 y3 pc3)).setCell ⟨rb, 4, none⟩ (.slice pa4 y4 pc4)).setCell ⟨rb, 5, none⟩ (.int .i64 sx.due)) rb 6 (.int .i64 sx.reply) _ _ _ j5
    have hfin : (((((((w4.setCell ⟨rb, 0, none⟩ (.slice pa0 y0 pc0)).setCell ⟨rb, 1, none⟩ (.slice pa1 y1 pc1)).setCell ⟨rb, 2, none⟩ (.slice pa2 y2 pc2)).setCell ⟨rb, 3, none⟩ (.slice pa3 y3 pc3)).setCell ⟨rb, 4, none⟩ (.slice pa4 y4 pc4)).setCell ⟨rb, 5, none⟩ (.int .i64 sx.due)).setCell ⟨rb, 6, none⟩ (.int .i64 sx.reply)).heap[rb]? = some (.cells #[.slice pa0 y0 pc0, .slice pa1 y1 pc1, .slice pa2 y2 pc2, .slice pa3 y3 pc3, .slice pa4 y4 pc4, .int .i64 sx.due, .int .i64 sx.reply] 31 (0, 0)) := by simpa using j6
    clear j0 j1 j2 j3 j4 j5 j6
    have e0 := cell_at (i := 0) hbk rfl
    have e1 := cell_at (i := 1) hbk rfl
    have e2 := cell_at (i := 2) hbk rfl
    have e3 := cell_at (i := 3) hbk rfl
    have e4 := cell_at (i := 4) hbk rfl
    have e5 := cell_at (i := 5) hbk rfl
    have e6 := cell_at (i := 6) hbk rfl
    have t0 := cell_at (i := 0) hrbk rfl
    have t1 := cell_at (i := 1) hrbk rfl
    have t2 := cell_at (i := 2) hrbk rfl
    have t3 := cell_at (i := 3) hrbk rfl
    have t4 := cell_at (i := 4) hrbk rfl
    have t5 := cell_at (i := 5) hrbk rfl
    have t6 := cell_at (i := 6) hrbk rfl
    have z0 := frozen_at (i := 0) hrbk
    have z1 := frozen_at (i := 1) hrbk
    have z2 := frozen_at (i := 2) hrbk
    have z3 := frozen_at (i := 3) hrbk
    have z4 := frozen_at (i := 4) hrbk
    have z5 := frozen_at (i := 5) hrbk
    have z6 := frozen_at (i := 6) hrbk
    have q0 := cell_at (i := 0) hfin rfl
    have q1 := cell_at (i := 1) hfin rfl
    have q2 := cell_at (i := 2) hfin rfl
    have q3 := cell_at (i := 3) hfin rfl
    have q4 := cell_at (i := 4) hfin rfl
    have q5 := cell_at (i := 5) hfin rfl
    have q6 := cell_at (i := 6) hfin rfl
    have HP := Lib.hid (show PSet σ (.agg #[.slice pa0 y0 pc0, .slice pa1 y1 pc1, .slice pa2 y2 pc2, .slice pa3 y3 pc3, .slice pa4 y4 pc4, .int .i64 sx.due, .int .i64 sx.reply]) (((((((w4.setCell ⟨rb, 0, none⟩ (.slice pa0 y0 pc0)).setCell ⟨rb, 1, none⟩ (.slice pa1 y1 pc1)).setCell ⟨rb, 2, none⟩ (.slice pa2 y2 pc2)).setCell ⟨rb, 3, none⟩ (.slice pa3 y3 pc3)).setCell ⟨rb, 4, none⟩ (.slice pa4 y4 pc4)).setCell ⟨rb, 5, none⟩ (.int .i64 sx.due)).setCell ⟨rb, 6, none⟩ (.int .i64 sx.reply)) from ⟨pa0, pa1, pa2, pa3, pa4, pc0, pc1, pc2, pc3, pc4, sx, by rw [HY0.out, HY1.out, HY2.out, HY3.out, HY4.out], by have h := hac.out; rw [HY0.out, HY1.out, HY2.out, HY3.out, HY4.out] at h ⊢; exact h, hbd⟩)
    clear hke hfin hbk hrbk hst hbt hrn his hac hbd HY0 HY1 HY2 HY3 HY4
    go_wp2_with fail
    refine bodyPost_ret (v := .agg #[.slice pa0 y0 pc0, .slice pa1 y1 pc1, .slice pa2 y2 pc2, .slice pa3 y3 pc3, .slice pa4 y4 pc4, .int .i64 sx.due, .int .i64 sx.reply]) ?_ rfl ⟨_, n9, rfl, HP.out, by omega, by omega, hfs.out, hfw.out⟩
    simp [results, Tryz.results56, go_sem, q0, q1, q2, q3, q4, q5, q6]
  | true =>
    go_wp2_with fail
    refine (next_any σ n4 6 _ hs4 (by omega) (by omega) (by omega)).mono ?_
    rintro e w5 ⟨v, n5, rfl, ⟨r, rfl, hr1, hr2⟩, hA5, hB5, hs5, hb5⟩
    have hm5 := hm4.keep hb5 hs5
    have hB5' : B2 ≤ w5.heap.size := by have := hb5.size; omega
    have hz15 : w1.heap.size ≤ w5.heap.size := by have := hb5.size; omega
    clear hm4 hs4 hb5 hB4'
    have hr6 : r = 0 ∨ r = 1 ∨ r = 2 ∨ r = 3 ∨ r = 4 ∨ r = 5 := by omega
    clear hr1 hr2
    have hl5 := hs5.lt
    have hwz5 := hm5.bt.size
    have hbl5 := (Array.getElem?_eq_some_iff.1 hm5.blk).1
    have hrl5 := (Array.getElem?_eq_some_iff.1 hm5.rblk).1
    go_upto_block 0 with fail
    go_cut [] (fun wx => DoneS σ bb rb w0 wx n0 490)
    case first =>
      rcases hr6 with rfl | rfl | rfl | rfl | rfl | rfl
      · skip
        have hm5L := hm5
        rw [HL0.out, HL1.out, HL2.out, HL3.out, HL4.out] at hm5L
        have his := hm5L.acc.isS (by omega) (by omega) (by omega) (by omega) (by omega)
        go_wp2_with fail
        refine (sheet_any σ n5 _ hs5 (by omega)).mono ?_
        rintro e w6 ⟨vn, n6, rfl, ⟨ys, -, hyl, aY⟩, hA6, hB6, hs6, hb6⟩
        have hm6 := hm5L.keep hb6 hs6
        have his6 := his.keep hb6
        obtain ⟨ay, cy, rfl, sly⟩ := aY.sl RQst.ok (by decide) (G := fun k => k ≠ σ.b) (fun _ h => h) (fun k hk => by have := (aY.lt k hk).1; omega)
        have hbk := hm6.blk
        have f0 := cell_at (i := 0) hbk rfl
        have g0 := frozen_at (i := 0) hbk
        have hd := doneS_put (i := 0) (u := .slice ay ys.length cy) (n := n0) (c := 490) ay a1 a2 a3 a4 cy c1 c2 c3 c4 ⟨ys, s.papers, s.pairs, s.barred, s.chairs, s.due, s.reply⟩ hbk (NoStr.of hbk setC_ns) hm6.rblk ⟨sly, his6.papers, his6.pairs, his6.barred, his6.chairs, by show ys.length ≤ 1000; omega, his6.n1, his6.n2, his6.n3, his6.n4⟩ ⟨by show ys.length ≤ 30; omega, by show s.papers.length ≤ 30; omega, by show s.pairs.length ≤ 30; omega, by show s.barred.length ≤ 30; omega, by show s.chairs.length ≤ 30; omega⟩ rfl hs6 hm6.bt (by omega) (by omega) hl0 hrb0 hrbb
        obtain ⟨yl, hyl2⟩ : ∃ l, l = ys.length := ⟨_, rfl⟩
        rw [← hyl2] at hd ⊢
        have hfin := Lib.hid hd
        clear hd hyl2 hm5 hm5L hm6 his his6 hbk hs5 hs6 hb6 sly aY
        go_wp2_with fail
        go_meet
        exact hfin.out
      · skip
        have hm5L := hm5
        rw [HL0.out, HL1.out, HL2.out, HL3.out, HL4.out] at hm5L
        have his := hm5L.acc.isS (by omega) (by omega) (by omega) (by omega) (by omega)
        go_wp2_with fail
        refine (papersOf10_any σ n5 _ hs5 (by omega)).mono ?_
        rintro e w6 ⟨vn, n6, rfl, ⟨ys, hyl, aY⟩, hA6, hB6, hs6, hb6⟩
        have hm6 := hm5L.keep hb6 hs6
        have his6 := his.keep hb6
        obtain ⟨ay, cy, rfl, sly⟩ := aY.sl RPap.ok (by decide) (G := fun k => k ≠ σ.b) (fun k h => by omega) (fun k hk => by have := (aY.lt k hk).1; omega)
        have hbk := hm6.blk
        have f0 := cell_at (i := 1) hbk rfl
        have g0 := frozen_at (i := 1) hbk
        have hd := doneS_put (i := 1) (u := .slice ay ys.length cy) (n := n0) (c := 490) a0 ay a2 a3 a4 c0 cy c2 c3 c4 ⟨s.sheet, ys, s.pairs, s.barred, s.chairs, s.due, s.reply⟩ hbk (NoStr.of hbk setC_ns) hm6.rblk ⟨his6.sheet, sly, his6.pairs, his6.barred, his6.chairs, his6.n0, by show ys.length ≤ 1000; omega, his6.n2, his6.n3, his6.n4⟩ ⟨by show s.sheet.length ≤ 30; omega, by show ys.length ≤ 30; omega, by show s.pairs.length ≤ 30; omega, by show s.barred.length ≤ 30; omega, by show s.chairs.length ≤ 30; omega⟩ rfl hs6 hm6.bt (by omega) (by omega) hl0 hrb0 hrbb
        obtain ⟨yl, hyl2⟩ : ∃ l, l = ys.length := ⟨_, rfl⟩
        rw [← hyl2] at hd ⊢
        have hfin := Lib.hid hd
        clear hd hyl2 hm5 hm5L hm6 his his6 hbk hs5 hs6 hb6 sly aY
        go_wp2_with fail
        go_meet
        exact hfin.out
      · skip
        have HM5 := Lib.hid hm5
        have hbk := hm5.blk
        have f1 := cell_at (i := 2) hbk rfl
        have hplb : s.pairs.length + 1 ≤ 1000000000 := by omega
        have HS5 := Lib.hid hs5
        clear hm5 f1
        go_upto_region 11 with fail
        refine wp_region_inv 10 (by kernel_rfl) (by kernel_rfl) (by kernel_rfl) (GStr 1 σ n5 w5)
          (DL [PIs (.pointer (some ⟨bb, 2, none⟩)), PIs (.slice a2 l2 c2), PIs (.pointer (some ⟨σ.b, 0, none⟩)), PStrs σ [⟨#[112, 99]⟩, ⟨#[122, 122]⟩], PStr (fun r => r.size ≤ 1000000), PIs (.pointer (some ⟨σ.b, 0, none⟩)), PStrs σ [⟨#[122, 101, 100]⟩, ⟨#[97, 110, 110]⟩, ⟨#[65]⟩], PStr (fun r => r.size ≤ 1000000), PPrV, PPrR σ]) (fun w w' => But σ.b w w')
          (DL.keep (by simp only [List.forall_mem_cons, List.not_mem_nil, false_implies, implies_true, and_true]; exact ⟨PIs.stays _ _, PIs.stays _ _, PIs.stays _ _, PStrs.stays _ _, PStr.stays _ _, PIs.stays _ _, PStrs.stays _ _, PStr.stays _ _, PPrV.stays _, PPrR.stays _⟩)) ?_ ?_ ?_
        · exact ⟨n5, Nat.le_refl _, by omega, HS5.out.keep (Kept.drew _ _), Kept.drew _ _⟩
        · intro i o t ho hd hi k a' wx hk hg hdf hts hoth hdeps
          obtain ⟨m, hm1, hm2, hst, hbut⟩ := hg
          have hlt := hst.lt
          have hmX := HM5.out.keep hbut hst
          have f1 := cell_at (i := 2) hmX.blk rfl
          clear hmX
          have hz : i = 0 ∨ i = 1 ∨ i = 2 ∨ i = 3 ∨ i = 4 ∨ i = 5 ∨ i = 6 ∨ i = 7 ∨ i = 8 ∨ i = 9 := by omega
          rcases hz with rfl | rfl | rfl | rfl | rfl | rfl | rfl | rfl | rfl | rfl
          · obtain rfl := Option.some.inj ho
            obtain rfl := Option.some.inj hd
            have e0 : a'.tmps.getD 3 undef = .pointer (some ⟨bb, 0, none⟩) := tmp_of ((hoth 3 (by decide)).trans rfl)
            clear hoth hdeps hdf hts ho
            refine wp_via (fun K' hK => ?_)
            have HK := Lib.hid hK
            clear hK
            go_simp
            exact HK.out _ _ ⟨_, rfl, GStr.same hm1 hm2 hst hbut, Kept.refl _ _, rfl⟩
          · obtain rfl := Option.some.inj ho
            obtain rfl := Option.some.inj hd
            have e0 : a'.tmps.getD 30 undef = (.pointer (some ⟨bb, 2, none⟩)) := hdeps 0 (by decide) 30 rfl
            clear hoth hdeps hdf hts ho
            refine wp_via (fun K' hK => ?_)
            have HK := Lib.hid hK
            clear hK
            go_simp
            exact HK.out _ _ ⟨_, rfl, GStr.same hm1 hm2 hst hbut, Kept.refl _ _, rfl⟩
          · obtain rfl := Option.some.inj ho
            obtain rfl := Option.some.inj hd
            have e0 : a'.tmps.getD 0 undef = (.pointer (some ⟨σ.b, 0, none⟩)) := tmp_of ((hoth 0 (by decide)).trans rfl)
            clear hoth hdeps hdf hts ho
            refine wp_via (fun K' hK => ?_)
            have HK := Lib.hid hK
            clear hK
            go_simp
            exact HK.out _ _ ⟨_, rfl, GStr.same hm1 hm2 hst hbut, Kept.refl _ _, rfl⟩
          · obtain rfl := Option.some.inj ho
            obtain rfl := Option.some.inj hd
            clear hoth hdeps hdf hts ho
            refine wp_via (fun K' hK => ?_)
            have HK := Lib.hid hK
            clear hK
            go_simp
            exact HK.out _ _ ⟨_, rfl, GStr.alloc _ hm1 hm2 hst hbut, Kept.alloc _ _ _, ⟨wx.heap.size, rfl, Nat.ne_of_gt hlt, heap_at _ _ _ rfl⟩⟩
          · obtain rfl := Option.some.inj ho
            obtain rfl := Option.some.inj hd
            have e0 : a'.tmps.getD 32 undef = (.pointer (some ⟨σ.b, 0, none⟩)) := hdeps 2 (by decide) 32 rfl
            obtain ⟨b, e1, hb1, hb2⟩ : PStrs σ [⟨#[112, 99]⟩, ⟨#[122, 122]⟩] (a'.tmps.getD 33 undef) wx := hdeps 3 (by decide) 33 rfl
            clear hoth hdeps hdf hts ho
            refine wp_via (fun K' hK => ?_)
            have HK := Lib.hid hK
            clear hK
            go_simp
            refine (some10_any σ m _ _ _ [⟨#[112, 99]⟩, ⟨#[122, 122]⟩] _ hst (by omega) (Sl.lit_strs _ hb2 rfl hb1) (by decide) (by decide)).mono ?_
            rintro e w2x ⟨v, m2, rfl, ⟨r, rfl, -, hr⟩, hm3, hm4, hst2, hb2x⟩
            exact HK.out _ _ ⟨_, rfl, GStr.call hm1 hm2 hbut hm3 (by omega) hst2 hb2x, hb2x, ⟨r, rfl, hr⟩⟩
          · obtain rfl := Option.some.inj ho
            obtain rfl := Option.some.inj hd
            have e0 : a'.tmps.getD 0 undef = (.pointer (some ⟨σ.b, 0, none⟩)) := tmp_of ((hoth 0 (by decide)).trans rfl)
            clear hoth hdeps hdf hts ho
            refine wp_via (fun K' hK => ?_)
            have HK := Lib.hid hK
            clear hK
            go_simp
            exact HK.out _ _ ⟨_, rfl, GStr.same hm1 hm2 hst hbut, Kept.refl _ _, rfl⟩
          · obtain rfl := Option.some.inj ho
            obtain rfl := Option.some.inj hd
            clear hoth hdeps hdf hts ho
            refine wp_via (fun K' hK => ?_)
            have HK := Lib.hid hK
            clear hK
            go_simp
            exact HK.out _ _ ⟨_, rfl, GStr.alloc _ hm1 hm2 hst hbut, Kept.alloc _ _ _, ⟨wx.heap.size, rfl, Nat.ne_of_gt hlt, heap_at _ _ _ rfl⟩⟩
          · obtain rfl := Option.some.inj ho
            obtain rfl := Option.some.inj hd
            have e0 : a'.tmps.getD 35 undef = (.pointer (some ⟨σ.b, 0, none⟩)) := hdeps 5 (by decide) 35 rfl
            obtain ⟨b, e1, hb1, hb2⟩ : PStrs σ [⟨#[122, 101, 100]⟩, ⟨#[97, 110, 110]⟩, ⟨#[65]⟩] (a'.tmps.getD 36 undef) wx := hdeps 6 (by decide) 36 rfl
            clear hoth hdeps hdf hts ho
            refine wp_via (fun K' hK => ?_)
            have HK := Lib.hid hK
            clear hK
            go_simp
            refine (some10_any σ m _ _ _ [⟨#[122, 101, 100]⟩, ⟨#[97, 110, 110]⟩, ⟨#[65]⟩] _ hst (by omega) (Sl.lit_strs _ hb2 rfl hb1) (by decide) (by decide)).mono ?_
            rintro e w2x ⟨v, m2, rfl, ⟨r, rfl, -, hr⟩, hm3, hm4, hst2, hb2x⟩
            exact HK.out _ _ ⟨_, rfl, GStr.call hm1 hm2 hbut hm3 (by omega) hst2 hb2x, hb2x, ⟨r, rfl, hr⟩⟩
          · obtain rfl := Option.some.inj ho
            obtain rfl := Option.some.inj hd
            obtain ⟨x1, e0, h1⟩ : PStr (fun r => r.size ≤ 1000000) (a'.tmps.getD 34 undef) wx := hdeps 4 (by decide) 34 rfl
            obtain ⟨x2, e1, h2⟩ : PStr (fun r => r.size ≤ 1000000) (a'.tmps.getD 37 undef) wx := hdeps 7 (by decide) 37 rfl
            have e0' : a'.tmps[34]?.getD undef = .string x1 := by rw [← Array.getD_eq_getD_getElem?]; exact e0
            have e1' : a'.tmps[37]?.getD undef = .string x2 := by rw [← Array.getD_eq_getD_getElem?]; exact e1
            clear hoth hdeps hdf hts ho
            refine wp_via (fun K' hK => ?_)
            have HK := Lib.hid hK
            clear hK
            go_simp
            exact HK.out _ _ ⟨_, rfl, GStr.same hm1 hm2 hst hbut, Kept.refl _ _, ⟨⟨x1, x2, h1, h2⟩, rfl⟩⟩
          · obtain rfl := Option.some.inj ho
            obtain rfl := Option.some.inj hd
            obtain ⟨y, e0⟩ : PPrV (a'.tmps.getD 38 undef) wx := hdeps 8 (by decide) 38 rfl
            have e0' : a'.tmps[38]?.getD undef = .agg #[.string y.paper, .string y.person] := by rw [← Array.getD_eq_getD_getElem?]; exact e0
            clear hoth hdeps hdf hts ho
            refine wp_via (fun K' hK => ?_)
            have HK := Lib.hid hK
            clear hK
            go_simp
            exact HK.out _ _ ⟨_, rfl, GStr.alloc _ hm1 hm2 hst hbut, Kept.alloc _ _ _, ⟨y, wx.heap.size, rfl, Nat.ne_of_gt hlt, heap_at _ _ _ rfl⟩⟩
        · intro wx f hg hd
          obtain ⟨m, hm1, hm2, hst, hbut⟩ := hg
          have e31 : f 31 = (.slice a2 l2 c2) := hd 1 31 (by decide) rfl
          obtain ⟨y, b9, e39, hb9n, hb9⟩ : PPrR σ (f 39) wx := hd 9 39 (by decide) rfl
          have hmX := HM5.out.keep hbut hst
          have HMX := Lib.hid hmX
          have hAx := hmX.acc.a2
          have hbkx := hmX.blk
          have hBx : B2 ≤ wx.heap.size := Nat.le_trans hB5' hbut.size
          have hmn : m ≤ n5 + 10 := by omega
          clear hmX
          rw [show dsts _ 10 = [30, 31, 32, 33, 34, 35, 36, 37, 38, 39] from by kernel_rfl]
          simp only [List.map_cons, List.map_nil, puts, Act.put, e31, e39, List.drop_succ_cons, List.drop_zero]
          generalize f 30 = f30
          generalize f 32 = f32
          generalize f 33 = f33
          generalize f 34 = f34
          generalize f 35 = f35
          generalize f 36 = f36
          generalize f 37 = f37
          generalize f 38 = f38
          clear hd e31 e39
          simp only [List.setIfInBounds_toArray, List.set_cons_zero, List.set_cons_succ]
          refine wp_append1 RPair.ok wx rfl _ _ 28 rfl B2 39 (.agg #[.string ⟨#[]⟩, .string ⟨#[]⟩]) 2 32 Tryz.underlying28 (by kernel_rfl) rfl (by decide) (fun _ => False) (.slice a2 l2 c2) s.pairs rfl hAx ⟨b9, 0, none⟩ 1 [.string y.paper, .string y.person] rfl rfl (World.news_of_block hb9) (by simp [Value.oneCell']) y rfl hplb (by decide) hBx ?_
          intro p8 c8 w8 hacc8 hgrow hat8
          rw [← HL2.out] at hacc8 hat8 ⊢
          have hkA : All wx wx := Kept.refl _ _
          obtain ⟨g, hg1, hg2, hg3, hg4⟩ := gk_any HMX.out 2 hAx (by have := HMX.out.acc.hB2; omega) (by decide)
          have hkg := grown_kept hkA hgrow g hg1
          have hbb8 := hkg.heap hbkx (fun e => hg3 e.symm)
          have f8 := cell_at (i := 2) hbb8 rfl
          have z8 := frozen_at (i := 2) hbb8
          have hA8 := HMX.out.acc.grow2 hkA hgrow hat8 hacc8
          have hm8 := HMX.out.put (i := 2) (u := .slice p8 (l2 + 1) c8) hkg hg2 hg3 hg4 hA8 rfl (setC_noStr HMX.out.acc.a0.noStr HMX.out.acc.a1.noStr HMX.out.acc.a2.noStr HMX.out.acc.a3.noStr HMX.out.acc.a4.noStr)
          have hfin := Lib.hid (hm8.done (n := n0) (c := 490) ⟨by show s.sheet.length ≤ 30; omega, by show s.papers.length ≤ 30; omega, by show (s.pairs ++ [y]).length ≤ 30; simp; omega, by show s.barred.length ≤ 30; omega, by show s.chairs.length ≤ 30; omega⟩ (by omega) (by omega))
          clear hm8 hA8 hkg hgrow hacc8 hat8 hkA hbb8 hs5 hAx hbkx hst hbut hb9
          simp only [Act.put, List.setIfInBounds_toArray, List.set_cons_zero, List.set_cons_succ]
          go_wp2_with fail
          go_meet
          exact hfin.out
      · skip
        have HM5 := Lib.hid hm5
        have hbk := hm5.blk
        have f2 := cell_at (i := 2) hbk rfl
        have f3 := cell_at (i := 3) hbk rfl
        have A2 := hm5.acc.a2
        have A3 := hm5.acc.a3
        clear hm5
        go_wp2_with (at_builtin; refine wp_appendP _ rfl _ _ 28 rfl B2 39 32 Tryz.underlying28 (by kernel_rfl) (.slice a3 l3 c3) s.barred rfl A3 B2 (.slice a2 l2 c2) s.pairs rfl A2 (by omega) (by decide) hB5' ?_)
        intro p8 c8 w8 hacc8 hgrow hat8
        rw [← HL3.out, ← HL2.out] at hacc8 hat8 ⊢
        have hkA : All w5 w5 := Kept.refl _ _
        obtain ⟨g, hg1, hg2, hg3, hg4⟩ := gk_any HM5.out 3 A3 (by have := HM5.out.acc.hB2; omega) (by decide)
        have hkg := grown_kept hkA hgrow g hg1
        have hA8 := HM5.out.acc.grow3 hkA hgrow hat8 hacc8
        have hm8 := HM5.out.put (i := 3) (u := .slice p8 (l3 + l2) c8) hkg hg2 hg3 hg4 hA8 rfl (setC_noStr HM5.out.acc.a0.noStr HM5.out.acc.a1.noStr HM5.out.acc.a2.noStr HM5.out.acc.a3.noStr HM5.out.acc.a4.noStr)
        have hbb8 := hkg.heap hbk (fun e => hg3 e.symm)
        have f8 := cell_at (i := 3) hbb8 rfl
        have z8 := frozen_at (i := 3) hbb8
        have f9 := cell_at (i := 3) hm8.blk rfl
        have HM8 := Lib.hid hm8
        have HSO := Lib.hid (sortP_any _ (s.barred ++ s.pairs) _ hm8.acc.a3 (by simp; omega))
        clear hm8 hA8 hkg hgrow hacc8 hat8 hkA hbb8 A2 A3 hbk f2
        go_wp2_with fail
        refine HSO.out.mono ?_
        rintro e w10 ⟨rfl, qs, hql, hacq, hgq⟩
        have hA10 := HM8.out.acc.grow3 (Kept.refl _ _) hgq (Or.inl rfl) hacq
        obtain ⟨g2, hg21, hg22, hg23, hg24⟩ := gk_any HM8.out 3 HM8.out.acc.a3 (by have := HM8.out.acc.hB2; omega) (by decide)
        have hk10 := grown_kept (Kept.refl _ _) hgq g2 hg21
        have hm10 : MkS σ bb w1.heap.size B1 B2 (.slice a0 l0 c0) (.slice a1 l1 c1) (.slice a2 l2 c2) (.slice p8 (l3 + l2) c8) (.slice a4 l4 c4) ⟨s.sheet, s.papers, s.pairs, qs, s.chairs, s.due, s.reply⟩ w0 w10 rb n5 := ⟨hA10, hk10.heap HM8.out.blk (fun e => hg23 e.symm), hk10.heap HM8.out.rblk (fun e => hg24 e.symm), HM8.out.st.kept hk10 (fun k hk => by omega), HM8.out.bt.trans2 hk10 (fun k hk _ => by omega), hl0, hrb0, hrbb⟩
        have hqn : qs.length ≤ 24 := by rw [hql]; simp; omega
        have hfin := Lib.hid (hm10.done (n := n0) (c := 490) ⟨by show s.sheet.length ≤ 30; omega, by show s.papers.length ≤ 30; omega, by show s.pairs.length ≤ 30; omega, by show qs.length ≤ 30; omega, by show s.chairs.length ≤ 30; omega⟩ (by omega) (by omega))
        clear hm10 hA10 hk10 hgq hacq hs5
        go_wp2_with fail
        go_meet
        exact hfin.out
      · skip
        have HM5 := Lib.hid hm5
        have hbk := hm5.blk
        have f1 := cell_at (i := 4) hbk rfl
        have hplb : s.chairs.length + 1 ≤ 1000000000 := by omega
        have d1 := cell_at (i := 4) (heap_old (.cells #[.string ⟨#[]⟩, .string ⟨#[65]⟩, .string ⟨#[97, 110, 110]⟩, .string ⟨#[122, 101, 100]⟩] 9) hbk) rfl
        clear hm5
        go_wp2_with fail
        go_region_law (first
          | (refine step_append1 RStr.ok _ (by rfl) _ _ 29 (by rfl) w1.heap.size 9 (.string ⟨#[]⟩) 1 16 Tryz.underlying29 (by kernel_rfl) rfl (by decide) (fun _ => False) (.slice a4 l4 c4) s.chairs (by rfl) (hmY.acc.a4.keepAll RStr.ok (by repeat (first | exact Kept.refl _ _ | refine Kept.then_drew ?_ | refine Kept.then_drewN ?_ _ | refine Kept.then_alloc ?_ _))) ⟨wY.heap.size, 0, none⟩ 1 [.string y] (by rfl) rfl (World.news_of_block (cs := #[.string y]) (t := 9) (fr := (0, 0)) (heap_alloc_new wY _)) (by simp [Value.oneCell']) y ⟨rfl, hy⟩ hplb (by decide) (by have := hmY.acc.hB; simp; omega) ?_; intro p8 c8 w8 hacc8 hgrow hat8; rw [← HL4.out] at hacc8 hat8 ⊢; have hkA : All wY (wY.alloc (.cells #[.string y] 9)) := Kept.alloc _ _ _; obtain ⟨g, hg1, hg2, hg3, hg4⟩ := HGK.out; have hkg := grown_kept hkA hgrow g hg1; have hbb8 := hkg.heap hmY.blk (fun e => hg3 e.symm); have f8 := cell_at (i := 4) hbb8 rfl; have z8 := frozen_at (i := 4) hbb8)
          | (go_simp; go_at_call 58; refine (some10_any σ n5 _ 4 4 [⟨#[]⟩, ⟨#[65]⟩, ⟨#[97, 110, 110]⟩, ⟨#[122, 101, 100]⟩] (w5.alloc (.cells #[.string ⟨#[]⟩, .string ⟨#[65]⟩, .string ⟨#[97, 110, 110]⟩, .string ⟨#[122, 101, 100]⟩] 9)).drew (hs5.keep (by repeat (first | exact Kept.refl _ _ | refine Kept.then_drew ?_ | refine Kept.then_drewN ?_ _ | refine Kept.then_alloc ?_ _))) (by omega) (Sl.lit_strs [⟨#[]⟩, ⟨#[65]⟩, ⟨#[97, 110, 110]⟩, ⟨#[122, 101, 100]⟩] (w' := (w5.alloc (.cells #[.string ⟨#[]⟩, .string ⟨#[65]⟩, .string ⟨#[97, 110, 110]⟩, .string ⟨#[122, 101, 100]⟩] 9)).drew) (heap_at w5 (.cells #[.string ⟨#[]⟩, .string ⟨#[65]⟩, .string ⟨#[97, 110, 110]⟩, .string ⟨#[122, 101, 100]⟩] 9) w5.heap.size rfl) rfl (by omega)) (by omega) (by omega)).mono ?_; rintro e wY ⟨v, nY, rfl, ⟨y, rfl, -, hy⟩, hAY, hBY, hsY, hbY'⟩; have hmY := HM5.out.keep ((Kept.all ((by repeat (first | exact Kept.refl _ _ | refine Kept.then_drew ?_ | refine Kept.then_drewN ?_ _ | refine Kept.then_alloc ?_ _)) : All w5 _)).trans hbY') hsY; have fY := cell_at (i := 4) hmY.blk rfl; have fYa := cell_at (i := 4) (heap_old (.cells #[.string y] 9) hmY.blk) rfl; have hzY := hmY.bt.size; have hw1Y : w1.heap.size ≤ wY.heap.size := Nat.le_trans hz15 (Nat.le_trans (by simp) hbY'.size); have HGK := Lib.hid (gk_any hmY 4 hmY.acc.a4 (by omega) (by decide))))
        all_goals
          have hd := hmY.grow4 (Kept.alloc _ _ _) hgrow hacc8 ⟨by omega, by omega, by omega, by omega, by omega⟩ hkg hg3 hg4 hg1 hg2 (n := n0) (c := 490) (u := .slice p8 (l4 + 1) c8) (ps := s.chairs ++ [y]) (by simp; omega) (by omega) (by omega) rfl
          have hfin := Lib.hid hd
          clear hd hmY hkg hgrow hacc8 hat8 hkA hbb8 hs5 hsY
          go_wp2_with fail
          go_meet
          exact hfin.out
      · skip
        have hm5L := hm5
        rw [HL0.out, HL1.out, HL2.out, HL3.out, HL4.out] at hm5L
        have his := hm5L.acc.isS (by omega) (by omega) (by omega) (by omega) (by omega)
        go_wp2_with fail
        refine (odd10_any σ n5 0 5761440 _ hs5 (by omega) (by omega) (by omega) (by omega)).mono ?_
        rintro e w6 ⟨vn, n6, rfl, ⟨y1, rfl, -⟩, hA6, hB6, hs6, hb6⟩
        go_wp2_with fail
        refine (odd10_any σ n6 0 5761440 _ hs6 (by omega) (by omega) (by omega) (by omega)).mono ?_
        rintro e w7 ⟨vn, n7, rfl, ⟨y2, rfl, -⟩, hA7, hB7, hs7, hb7⟩
        have hm7 := (hm5L.keep hb6 hs6).keep hb7 hs7
        have his7 := (his.keep hb6).keep hb7
        have hbk := hm7.blk
        have f0 := cell_at (i := 5) hbk rfl
        have g0 := frozen_at (i := 5) hbk
        have hb8 := heap_setCell_at w7 bb 5 (.int .i64 y1) _ _ _ hbk
        simp only [List.setIfInBounds_toArray, List.set_cons_zero, List.set_cons_succ] at hb8
        have f1 := cell_at (i := 6) hb8 rfl
        have g1 := frozen_at (i := 6) hb8
        have kS : Kept (fun k => k ≠ bb) w7 (w7.setCell ⟨bb, 5, none⟩ (.int .i64 y1)) := Kept.setCell _ _ _ (fun h => h rfl)
        have his8 := his7.past (NoStr.of hbk setC_ns) kS
        have hrb8 := kS.heap hm7.rblk (by omega)
        have hs8 := hs7.set ⟨bb, 5, none⟩ (.int .i64 y1) (by dsimp only; omega)
        have hw8 := hm7.bt.then_setNew ⟨bb, 5, none⟩ (.int .i64 y1) (by dsimp only; omega)
        have hd := doneS_put (i := 6) (u := .int .i64 y2) (n := n0) (c := 490) a0 a1 a2 a3 a4 c0 c1 c2 c3 c4 ⟨s.sheet, s.papers, s.pairs, s.barred, s.chairs, y1, y2⟩ hb8 (NoStr.of hb8 (by intro v hv z; simp at hv; rcases hv with rfl | rfl | rfl | rfl | rfl | rfl | rfl <;> exact fun h => by cases h)) hrb8 ⟨his8.sheet, his8.papers, his8.pairs, his8.barred, his8.chairs, his8.n0, his8.n1, his8.n2, his8.n3, his8.n4⟩ ⟨by show s.sheet.length ≤ 30; omega, by show s.papers.length ≤ 30; omega, by show s.pairs.length ≤ 30; omega, by show s.barred.length ≤ 30; omega, by show s.chairs.length ≤ 30; omega⟩ rfl hs8 hw8 (by omega) (by omega) hl0 hrb0 hrbb
        have hfin := Lib.hid hd
        clear hd hm5 hm5L hm7 his his7 his8 hbk hb8 hs5 hs6 hs7 hb6 hb7 kS hrb8 hs8 hw8
        go_wp2_with fail
        go_meet
        exact hfin.out
    case rest =>
      clear hm5 hs5
      have hd := hcut
      obtain ⟨wz, rfl⟩ : ∃ x : World, x = wc := ⟨_, rfl⟩
      clear hcut
      obtain ⟨pa0, pa1, pa2, pa3, pa4, pc0, pc1, pc2, pc3, pc4, sx, n9, hbk, hrbk, his, hbd, hst, hnA, hnB, hbt⟩ := hd
      obtain ⟨y0, hy0⟩ : ∃ l, l = sx.sheet.length := ⟨_, rfl⟩
      have HY0 := Lib.hid hy0
      obtain ⟨y1, hy1⟩ : ∃ l, l = sx.papers.length := ⟨_, rfl⟩
      have HY1 := Lib.hid hy1
      obtain ⟨y2, hy2⟩ : ∃ l, l = sx.pairs.length := ⟨_, rfl⟩
      have HY2 := Lib.hid hy2
      obtain ⟨y3, hy3⟩ : ∃ l, l = sx.barred.length := ⟨_, rfl⟩
      have HY3 := Lib.hid hy3
      obtain ⟨y4, hy4⟩ : ∃ l, l = sx.chairs.length := ⟨_, rfl⟩
      have HY4 := Lib.hid hy4
      rw [← hy0, ← hy1, ← hy2, ← hy3, ← hy4] at hbk his
      clear hy0 hy1 hy2 hy3 hy4
      have hke : Kept (fun k => k ≠ rb) wz (((((((wz.setCell ⟨rb, 0, none⟩ (.slice pa0 y0 pc0)).setCell ⟨rb, 1, none⟩ (.slice pa1 y1 pc1)).setCell ⟨rb, 2, none⟩ (.slice pa2 y2 pc2)).setCell ⟨rb, 3, none⟩ (.slice pa3 y3 pc3)).setCell ⟨rb, 4, none⟩ (.slice pa4 y4 pc4)).setCell ⟨rb, 5, none⟩ (.int .i64 sx.due)).setCell ⟨rb, 6, none⟩ (.int .i64 sx.reply)) := (((((((Kept.refl _ _).then_setCell _ _ (fun h => h rfl)).then_setCell _ _ (fun h => h rfl)).then_setCell _ _ (fun h => h rfl)).then_setCell _ _ (fun h => h rfl)).then_setCell _ _ (fun h => h rfl)).then_setCell _ _ (fun h => h rfl)).then_setCell _ _ (fun h => h rfl)
      have hrn : NoStr wz rb := NoStr.of hrbk (by intro v hv z; simp at hv; rcases hv with rfl | rfl | rfl <;> exact fun h => by cases h)
      have hac := Lib.hid (his.past hrn hke)
      have hfs := Lib.hid (((((((hst.set ⟨rb, 0, none⟩ (.slice pa0 y0 pc0) (by dsimp only; omega)).set ⟨rb, 1, none⟩ (.slice pa1 y1 pc1) (by dsimp only; omega)).set ⟨rb, 2, none⟩ (.slice pa2 y2 pc2) (by dsimp only; omega)).set ⟨rb, 3, none⟩ (.slice pa3 y3 pc3) (by dsimp only; omega)).set ⟨rb, 4, none⟩ (.slice pa4 y4 pc4) (by dsimp only; omega)).set ⟨rb, 5, none⟩ (.int .i64 sx.due) (by dsimp only; omega)).set ⟨rb, 6, none⟩ (.int .i64 sx.reply) (by dsimp only; omega))
      have hfw := Lib.hid (((((((hbt.then_setNew ⟨rb, 0, none⟩ (.slice pa0 y0 pc0) (by dsimp only; omega)).then_setNew ⟨rb, 1, none⟩ (.slice pa1 y1 pc1) (by dsimp only; omega)).then_setNew ⟨rb, 2, none⟩ (.slice pa2 y2 pc2) (by dsimp only; omega)).then_setNew ⟨rb, 3, none⟩ (.slice pa3 y3 pc3) (by dsimp only; omega)).then_setNew ⟨rb, 4, none⟩ (.slice pa4 y4 pc4) (by dsimp only; omega)).then_setNew ⟨rb, 5, none⟩ (.int .i64 sx.due) (by dsimp only; omega)).then_setNew ⟨rb, 6, none⟩ (.int .i64 sx.reply) (by dsimp only; omega))
      have j0 := heap_setCell_at wz rb 0 (.slice pa0 y0 pc0) _ _ _ hrbk
      have j1 := heap_setCell_at (wz.setCell ⟨rb, 0, none⟩ (.slice pa0 y0 pc0)) rb 1 (.slice pa1 y1 pc1) _ _ _ j0
      have j2 := heap_setCell_at ((wz.setCell ⟨rb, 0, none⟩ (.slice pa0 y0 pc0)).setCell ⟨rb, 1, none⟩ (.slice pa1 y1 pc1)) rb 2 (.slice pa2 y2 pc2) _ _ _ j1
      have j3 := heap_setCell_at (((wz.setCell ⟨rb, 0, none⟩ (.slice pa0 y0 pc0)).setCell ⟨rb, 1, none⟩ (.slice pa1 y1 pc1)).setCell ⟨rb, 2, none⟩ (.slice pa2 y2 pc2)) rb 3 (.slice pa3 y3 pc3) _ _ _ j2
      have j4 := heap_setCell_at ((((wz.setCell ⟨rb, 0, none⟩ (.slice pa0 y0 pc0)).setCell ⟨rb, 1, none⟩ (.slice pa1 y1 pc1)).setCell ⟨rb, 2, none⟩ (.slice pa2 y2 pc2)).setCell ⟨rb, 3, none⟩ (.slice pa3 y3 pc3)) rb 4 (.slice pa4 y4 pc4) _ _ _ j3
      have j5 := heap_setCell_at (((((wz.setCell ⟨rb, 0, none⟩ (.slice pa0 y0 pc0)).setCell ⟨rb, 1, none⟩ (.slice pa1 y1 pc1)).setCell ⟨rb, 2, none⟩ (.slice pa2 y2 pc2)).setCell ⟨rb, 3, none⟩ (.slice pa3 y3 pc3)).setCell ⟨rb, 4, none⟩ (.slice pa4 y4 pc4)) rb 5 (.int .i64 sx.due) _ _ _ j4
      have j6 := heap_setCell_at ((((((wz.setCell ⟨rb, 0, none⟩ (.slice pa0 y0 pc0)).setCell ⟨rb, 1, none⟩ (.slice pa1 y1 pc1)).setCell ⟨rb, 2, none⟩ (.slice pa2 y2 pc2)).setCell ⟨rb, 3, none⟩ (.slice pa3 y3 pc3)).setCell ⟨rb, 4, none⟩ (.slice pa4 y4 pc4)).setCell ⟨rb, 5, none⟩ (.int .i64 sx.due)) rb 6 (.int .i64 sx.reply) _ _ _ j5
      have hfin : (((((((wz.setCell ⟨rb, 0, none⟩ (.slice pa0 y0 pc0)).setCell ⟨rb, 1, none⟩ (.slice pa1 y1 pc1)).setCell ⟨rb, 2, none⟩ (.slice pa2 y2 pc2)).setCell ⟨rb, 3, none⟩ (.slice pa3 y3 pc3)).setCell ⟨rb, 4, none⟩ (.slice pa4 y4 pc4)).setCell ⟨rb, 5, none⟩ (.int .i64 sx.due)).setCell ⟨rb, 6, none⟩ (.int .i64 sx.reply)).heap[rb]? = some (.cells #[.slice pa0 y0 pc0, .slice pa1 y1 pc1, .slice pa2 y2 pc2, .slice pa3 y3 pc3, .slice pa4 y4 pc4, .int .i64 sx.due, .int .i64 sx.reply] 31 (0, 0)) := by simpa using j6
      clear j0 j1 j2 j3 j4 j5 j6
      have e0 := cell_at (i := 0) hbk rfl
      have e1 := cell_at (i := 1) hbk rfl
      have e2 := cell_at (i := 2) hbk rfl
      have e3 := cell_at (i := 3) hbk rfl
      have e4 := cell_at (i := 4) hbk rfl
      have e5 := cell_at (i := 5) hbk rfl
      have e6 := cell_at (i := 6) hbk rfl
      have t0 := cell_at (i := 0) hrbk rfl
      have t1 := cell_at (i := 1) hrbk rfl
      have t2 := cell_at (i := 2) hrbk rfl
      have t3 := cell_at (i := 3) hrbk rfl
      have t4 := cell_at (i := 4) hrbk rfl
      have t5 := cell_at (i := 5) hrbk rfl
      have t6 := cell_at (i := 6) hrbk rfl
      have z0 := frozen_at (i := 0) hrbk
      have z1 := frozen_at (i := 1) hrbk
      have z2 := frozen_at (i := 2) hrbk
      have z3 := frozen_at (i := 3) hrbk
      have z4 := frozen_at (i := 4) hrbk
      have z5 := frozen_at (i := 5) hrbk
      have z6 := frozen_at (i := 6) hrbk
      have q0 := cell_at (i := 0) hfin rfl
      have q1 := cell_at (i := 1) hfin rfl
      have q2 := cell_at (i := 2) hfin rfl
      have q3 := cell_at (i := 3) hfin rfl
      have q4 := cell_at (i := 4) hfin rfl
      have q5 := cell_at (i := 5) hfin rfl
      have q6 := cell_at (i := 6) hfin rfl
      have HP := Lib.hid (show PSet σ (.agg #[.slice pa0 y0 pc0, .slice pa1 y1 pc1, .slice pa2 y2 pc2, .slice pa3 y3 pc3, .slice pa4 y4 pc4, .int .i64 sx.due, .int .i64 sx.reply]) (((((((wz.setCell ⟨rb, 0, none⟩ (.slice pa0 y0 pc0)).setCell ⟨rb, 1, none⟩ (.slice pa1 y1 pc1)).setCell ⟨rb, 2, none⟩ (.slice pa2 y2 pc2)).setCell ⟨rb, 3, none⟩ (.slice pa3 y3 pc3)).setCell ⟨rb, 4, none⟩ (.slice pa4 y4 pc4)).setCell ⟨rb, 5, none⟩ (.int .i64 sx.due)).setCell ⟨rb, 6, none⟩ (.int .i64 sx.reply)) from ⟨pa0, pa1, pa2, pa3, pa4, pc0, pc1, pc2, pc3, pc4, sx, by rw [HY0.out, HY1.out, HY2.out, HY3.out, HY4.out], by have h := hac.out; rw [HY0.out, HY1.out, HY2.out, HY3.out, HY4.out] at h ⊢; exact h, hbd⟩)
      clear hke hfin hbk hrbk hst hbt hrn his hac hbd HY0 HY1 HY2 HY3 HY4
      go_wp2_with fail
      refine bodyPost_ret (v := .agg #[.slice pa0 y0 pc0, .slice pa1 y1 pc1, .slice pa2 y2 pc2, .slice pa3 y3 pc3, .slice pa4 y4 pc4, .int .i64 sx.due, .int .i64 sx.reply]) ?_ rfl ⟨_, n9, rfl, HP.out, by omega, by omega, hfs.out, hfw.out⟩
      simp [results, Tryz.results56, go_sem, q0, q1, q2, q3, q4, q5, q6]
end Go.Proofs.YtjbaijgdkkccbaaGreatDoor
