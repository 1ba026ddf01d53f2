/- scene: a setup with reviews. -/
import Derived.Test.YtjbaijgdkkccbaaGreatDoorBv
import Derived.Test.YtjbaijgdkkccbaaGreatDoorL6
import Derived.Test.YtjbaijgdkkccbaaGreatDoorZo
import Derived.Test.YtjbaijgdkkccbaaGreatDoorKd
import Derived.Test.YtjbaijgdkkccbaaGreatDoorBn
import Derived.Test.YtjbaijgdkkccbaaGreatDoorBz
import Derived.Test.YtjbaijgdkkccbaaGreatDoorFs
import Derived.Test.YtjbaijgdkkccbaaGreatDoorAj
import Derived.Test.YtjbaijgdkkccbaaGreatDoorWi
namespace Go.Proofs.YtjbaijgdkkccbaaGreatDoor
open Go.RowKit

/-- A setup with reviews, and its error. -/
def PScene (σ : St) (hi : Nat) (v : Value) (w : World) : Prop := ∃ (a0 a1 a2 a3 a4 : Option Addr) (l0 c0 l1 c1 l2 c2 l3 c3 l4 c4 : Nat) (s : Set7) (al : Option Addr) (ll cl : Nat) (xs : List Rev), v = .tuple #[.agg #[.slice a0 l0 c0, .slice a1 l1 c1, .slice a2 l2 c2, .slice a3 l3 c3, .slice a4 l4 c4, .int .i64 s.due, .int .i64 s.reply], .slice al ll cl, .int .i64 (revsF s xs)] ∧
  SetIs (fun k => k ≠ σ.b) w a0 l0 a1 l1 a2 l2 a3 l3 a4 l4 s ∧ (l0 ≤ 30 ∧ l1 ≤ 30 ∧ l2 ≤ 30 ∧ l3 ≤ 30 ∧ l4 ≤ 30) ∧ ll ≤ hi ∧ ll ≤ cl ∧ Sl RRev 7 (fun k => k ≠ σ.b) w al ll xs
set_option maxRecDepth 100000 in
set_option maxHeartbeats 12800000 in
theorem scene_any (σ : St) (n0 : Nat) (w0 : World) (M : Nat) (hs0 : Str σ w0 n0) (hn : n0 ≤ 4611686018426900000) (hM : M ≤ 12) (hg : ∀ wx, But σ.b w0 wx → Glob wx) :
    Calls Tryz.prog 9 #[.pointer (some ⟨σ.b, 0, none⟩), .int .i64 M] w0 (StPost σ n0 61000 w0 (PScene σ M)) := by
  have hl0 := hs0.lt
  have HG := Lib.hid hg
  clear hg
  have hk1 : All w0 (w0.alloc (.cells #[.slice none 0 0, .slice none 0 0, .slice none 0 0, .slice none 0 0, .slice none 0 0, .int .i64 0, .int .i64 0] 31)) := Kept.alloc _ _ _
  have hr1 := heap_at w0 (.cells #[.slice none 0 0, .slice none 0 0, .slice none 0 0, .slice none 0 0, .slice none 0 0, .int .i64 0, .int .i64 0] 31) _ rfl
  have hs1 := hs0.keep hk1
  have hw1 : But σ.b w0 _ := hk1.all
  obtain ⟨rb, hrb⟩ : ∃ b, b = w0.heap.size := ⟨_, rfl⟩
  have HRB := Lib.hid hrb
  rw [← hrb] at hr1
  have hrs : σ.b < rb := by omega
  have hrb0 : w0.heap.size ≤ rb := by omega
  have hrb1 : rb < (w0.alloc (.cells #[.slice none 0 0, .slice none 0 0, .slice none 0 0, .slice none 0 0, .slice none 0 0, .int .i64 0, .int .i64 0] 31)).heap.size := by rw [hrb]; simp
  have hz01 : w0.heap.size ≤ (w0.alloc (.cells #[.slice none 0 0, .slice none 0 0, .slice none 0 0, .slice none 0 0, .slice none 0 0, .int .i64 0, .int .i64 0] 31)).heap.size := by simp
  clear hrb
  go_enter Tryz.func9, Tryz.ntmps9
  go_upto_region 1 with fail
  simp only [← HRB.out]
  generalize w0.alloc (.cells #[.slice none 0 0, .slice none 0 0, .slice none 0 0, .slice none 0 0, .slice none 0 0, .int .i64 0, .int .i64 0] 31) = w1 at *
  clear hk1 hs0
  have hl1 := hs1.lt
  go_wp2_with fail
  refine (setup10_any σ n0 _ hs1 (by omega) (fun wx k => HG.out wx (hw1.trans k))).mono ?_
  rintro e w2 ⟨v, n2, rfl, ⟨a0, a1, a2, a3, a4, c0, c1, c2, c3, c4, s, rfl, his, hb0, hb1, hb2, hb3, hb4⟩, hA2, hB2, hs2, hk2⟩
  have hw2 := hw1.trans hk2
  have hr2 := hk2.heap hr1 (by omega)
  have hz12 := hk2.size
  clear hr1 hs1 hw1 hk2
  have hl2 := hs2.lt
  obtain ⟨l0, hle0⟩ : ∃ l, l = s.sheet.length := ⟨_, rfl⟩
  obtain ⟨l1, hle1⟩ : ∃ l, l = s.papers.length := ⟨_, rfl⟩
  obtain ⟨l2, hle2⟩ : ∃ l, l = s.pairs.length := ⟨_, rfl⟩
  obtain ⟨l3, hle3⟩ : ∃ l, l = s.barred.length := ⟨_, rfl⟩
  obtain ⟨l4, hle4⟩ : ∃ l, l = s.chairs.length := ⟨_, rfl⟩
  rw [← hle0, ← hle1, ← hle2, ← hle3, ← hle4] at his
  rw [← hle0] at hb0
  rw [← hle1] at hb1
  rw [← hle2] at hb2
  rw [← hle3] at hb3
  rw [← hle4] at hb4
  simp only [setC, ← hle0, ← hle1, ← hle2, ← hle3, ← hle4]
  clear hle0 hle1 hle2 hle3 hle4
  have hk3 : All w2 (w2.alloc (.cells #[.slice a0 l0 c0, .slice a1 l1 c1, .slice a2 l2 c2, .slice a3 l3 c3, .slice a4 l4 c4, .int .i64 s.due, .int .i64 s.reply] 31)) := Kept.alloc _ _ _
  have hb3' := heap_at w2 (.cells #[.slice a0 l0 c0, .slice a1 l1 c1, .slice a2 l2 c2, .slice a3 l3 c3, .slice a4 l4 c4, .int .i64 s.due, .int .i64 s.reply] 31) _ rfl
  obtain ⟨bb, hbb⟩ : ∃ b, b = w2.heap.size := ⟨_, rfl⟩
  have HBB := Lib.hid hbb
  rw [← hbb] at hb3'
  have hrbb : rb < bb := by omega
  have his3 := his.keep hk3.all
  have hs3 := hs2.keep hk3
  have hw3 := hw2.trans hk3.all
  have hr3 := hk3.heap hr2 trivial
  clear hbb his hs2 hw2 hr2 hk3
  go_upto_region 2 with fail
  simp only [← HBB.out]
  generalize w2.alloc (.cells #[.slice a0 l0 c0, .slice a1 l1 c1, .slice a2 l2 c2, .slice a3 l3 c3, .slice a4 l4 c4, .int .i64 s.due, .int .i64 s.reply] 31) = w3 at *
  have hl3 := hs3.lt
  have e0 := cell_at (i := 0) hb3' rfl
  have e1 := cell_at (i := 1) hb3' rfl
  have e2 := cell_at (i := 2) hb3' rfl
  have e3 := cell_at (i := 3) hb3' rfl
  have e4 := cell_at (i := 4) hb3' rfl
  have e5 := cell_at (i := 5) hb3' rfl
  have e6 := cell_at (i := 6) hb3' rfl
  go_wp2_with fail
  refine (reviews_any σ n2 _ a0 l0 c0 a1 l1 c1 a2 l2 c2 a3 l3 c3 a4 l4 c4 s M hs3 (by omega) his3 (by omega) (by omega) hM (fun wx k => HG.out wx (hw3.trans k))).mono ?_
  rintro e w4 ⟨v, n4, rfl, ⟨xs, hxl, hac⟩, hA4, hB4, hs4, hk4⟩
  have hw4 := hw3.trans hk4
  have his4 := his3.keep hk4
  have hr4 := hk4.heap hr3 (by omega)
  have hb4' := hk4.heap hb3' (by omega)
  clear hs3 his3 hr3 hb3' hw3 e0 e1 e2 e3 e4 e5 e6
  obtain ⟨al, cl, rfl, hcl⟩ := hac.form
  have hsx : Sl RRev 7 (fun k => k ≠ σ.b) w4 al xs.length xs := by
    obtain ⟨al', cl', he, hsl⟩ := hac.sl RRev.ok (by decide) (G := fun k => k ≠ σ.b) (fun _ h => h) (fun j hj => by have := (hac.lt j hj).1; omega)
    injection he with h1 h2 h3
    subst h1
    exact hsl
  have hxty := hac.notType hr4 (by decide)
  obtain ⟨ll, hll⟩ : ∃ l, l = xs.length := ⟨_, rfl⟩
  rw [← hll] at hcl hsx hxl ⊢
  clear hll hac hk4
  have HF := Lib.hid (fun (wx : World) (k : All w4 wx) => reviewsFault_any a0 l0 c0 a1 l1 c1 a2 l2 c2 a3 l3 c3 a4 l4 c4 s al ll cl xs wx ((his4.mono (fun _ _ => trivial)).keep k) ((hsx.mono RRev.ok (fun _ _ => trivial)).keep RRev.ok k) (by omega) hcl (HG.out wx (hw4.trans k.all)))
  obtain ⟨ef, hef⟩ : ∃ z, z = revsF s xs := ⟨_, rfl⟩
  have HEF := Lib.hid hef
  rw [← hef] at HF
  clear hef
  have e0 := cell_at (i := 0) hb4' rfl
  have e1 := cell_at (i := 1) hb4' rfl
  have e2 := cell_at (i := 2) hb4' rfl
  have e3 := cell_at (i := 3) hb4' rfl
  have e4 := cell_at (i := 4) hb4' rfl
  have e5 := cell_at (i := 5) hb4' rfl
  have e6 := cell_at (i := 6) hb4' rfl
  have HB4 := Lib.hid (fun (wx : World) (k : All w4 wx) => k.heap hb4' trivial)
  have HR4 := Lib.hid (fun (wx : World) (k : All w4 wx) => k.heap hr4 trivial)
  have y0 := cell_at (i := 0) hr4 rfl
  have y1 := cell_at (i := 1) hr4 rfl
  have y2 := cell_at (i := 2) hr4 rfl
  have y3 := cell_at (i := 3) hr4 rfl
  have y4 := cell_at (i := 4) hr4 rfl
  have y5 := cell_at (i := 5) hr4 rfl
  have y6 := cell_at (i := 6) hr4 rfl
  have u0 := frozen_at (i := 0) hr4
  have u1 := frozen_at (i := 1) hr4
  have u2 := frozen_at (i := 2) hr4
  have u3 := frozen_at (i := 3) hr4
  have u4 := frozen_at (i := 4) hr4
  have u5 := frozen_at (i := 5) hr4
  have u6 := frozen_at (i := 6) hr4
  go_wp2_with fail
  go_region_law (first | (go_simp; go_at_call 40; refine (HF.out _ (by repeat (first | exact Kept.refl _ _ | refine Kept.then_drew ?_ | refine Kept.then_drewN ?_ _ | refine Kept.then_alloc ?_ _))).mono ?_; rintro e w5 ⟨rfl, hw5'⟩; have hw5 : All w4 w5 := Kept.trans ((by repeat (first | exact Kept.refl _ _ | refine Kept.then_drew ?_ | refine Kept.then_drewN ?_ _ | refine Kept.then_alloc ?_ _)) : All w4 _) hw5'; have hbX := HB4.out w5 hw5; have hrX := HR4.out w5 hw5; have f0 := cell_at (i := 0) hbX rfl; have z0 := cell_at (i := 0) hrX rfl; have x0 := frozen_at (i := 0) hrX; have f1 := cell_at (i := 1) hbX rfl; have z1 := cell_at (i := 1) hrX rfl; have x1 := frozen_at (i := 1) hrX; have f2 := cell_at (i := 2) hbX rfl; have z2 := cell_at (i := 2) hrX rfl; have x2 := frozen_at (i := 2) hrX; have f3 := cell_at (i := 3) hbX rfl; have z3 := cell_at (i := 3) hrX rfl; have x3 := frozen_at (i := 3) hrX; have f4 := cell_at (i := 4) hbX rfl; have z4 := cell_at (i := 4) hrX rfl; have x4 := frozen_at (i := 4) hrX; have f5 := cell_at (i := 5) hbX rfl; have z5 := cell_at (i := 5) hrX rfl; have x5 := frozen_at (i := 5) hrX; have f6 := cell_at (i := 6) hbX rfl; have z6 := cell_at (i := 6) hrX rfl; have x6 := frozen_at (i := 6) hrX))
  all_goals
    have hke : Kept (fun k => k ≠ rb) w5 (((((((w5.setCell ⟨rb, 0, none⟩ (.slice a0 l0 c0)).setCell ⟨rb, 1, none⟩ (.slice a1 l1 c1)).setCell ⟨rb, 2, none⟩ (.slice a2 l2 c2)).setCell ⟨rb, 3, none⟩ (.slice a3 l3 c3)).setCell ⟨rb, 4, none⟩ (.slice a4 l4 c4)).setCell ⟨rb, 5, none⟩ (.int .i64 s.due)).setCell ⟨rb, 6, none⟩ (.int .i64 s.reply)) := (((((((Kept.refl _ _).then_setCell _ _ (fun h => h rfl)).then_setCell _ _ (fun h => h rfl)).then_setCell _ _ (fun h => h rfl)).then_setCell _ _ (fun h => h rfl)).then_setCell _ _ (fun h => h rfl)).then_setCell _ _ (fun h => h rfl)).then_setCell _ _ (fun h => h rfl)
    have hrn : NoStr w5 rb := NoStr.of hrX (by intro v hv z; simp at hv; rcases hv with rfl | rfl | rfl <;> exact fun h => by cases h)
    have hfi := Lib.hid ((his4.keep hw5.all).past hrn hke)
    have hfx := Lib.hid ((hsx.keep RRev.ok hw5.all).past RRev.isOff RRev.ok hrn hke)
    have hfs := Lib.hid ((((((((hs4.keep hw5).set ⟨rb, 0, none⟩ (.slice a0 l0 c0) (by dsimp only; omega)).set ⟨rb, 1, none⟩ (.slice a1 l1 c1) (by dsimp only; omega)).set ⟨rb, 2, none⟩ (.slice a2 l2 c2) (by dsimp only; omega)).set ⟨rb, 3, none⟩ (.slice a3 l3 c3) (by dsimp only; omega)).set ⟨rb, 4, none⟩ (.slice a4 l4 c4) (by dsimp only; omega)).set ⟨rb, 5, none⟩ (.int .i64 s.due) (by dsimp only; omega)).set ⟨rb, 6, none⟩ (.int .i64 s.reply) (by dsimp only; omega))
    have hfw := Lib.hid ((((((((hw4.trans hw5.all).then_setNew ⟨rb, 0, none⟩ (.slice a0 l0 c0) (by dsimp only; omega)).then_setNew ⟨rb, 1, none⟩ (.slice a1 l1 c1) (by dsimp only; omega)).then_setNew ⟨rb, 2, none⟩ (.slice a2 l2 c2) (by dsimp only; omega)).then_setNew ⟨rb, 3, none⟩ (.slice a3 l3 c3) (by dsimp only; omega)).then_setNew ⟨rb, 4, none⟩ (.slice a4 l4 c4) (by dsimp only; omega)).then_setNew ⟨rb, 5, none⟩ (.int .i64 s.due) (by dsimp only; omega)).then_setNew ⟨rb, 6, none⟩ (.int .i64 s.reply) (by dsimp only; omega))
    have j0 := heap_setCell_at w5 rb 0 (.slice a0 l0 c0) _ _ _ hrX
    have j1 := heap_setCell_at (w5.setCell ⟨rb, 0, none⟩ (.slice a0 l0 c0)) rb 1 (.slice a1 l1 c1) _ _ _ j0
    have j2 := heap_setCell_at ((w5.setCell ⟨rb, 0, none⟩ (.slice a0 l0 c0)).setCell ⟨rb, 1, none⟩ (.slice a1 l1 c1)) rb 2 (.slice a2 l2 c2) _ _ _ j1
    have j3 := heap_setCell_at (((w5.setCell ⟨rb, 0, none⟩ (.slice a0 l0 c0)).setCell ⟨rb, 1, none⟩ (.slice a1 l1 c1)).setCell ⟨rb, 2, none⟩ (.slice a2 l2 c2)) rb 3 (.slice a3 l3 c3) _ _ _ j2
    have j4 := heap_setCell_at ((((w5.setCell ⟨rb, 0, none⟩ (.slice a0 l0 c0)).setCell ⟨rb, 1, none⟩ (.slice a1 l1 c1)).setCell ⟨rb, 2, none⟩ (.slice a2 l2 c2)).setCell ⟨rb, 3, none⟩ (.slice a3 l3 c3)) rb 4 (.slice a4 l4 c4) _ _ _ j3
    have j5 := heap_setCell_at (((((w5.setCell ⟨rb, 0, none⟩ (.slice a0 l0 c0)).setCell ⟨rb, 1, none⟩ (.slice a1 l1 c1)).setCell ⟨rb, 2, none⟩ (.slice a2 l2 c2)).setCell ⟨rb, 3, none⟩ (.slice a3 l3 c3)).setCell ⟨rb, 4, none⟩ (.slice a4 l4 c4)) rb 5 (.int .i64 s.due) _ _ _ j4
    have j6 := heap_setCell_at ((((((w5.setCell ⟨rb, 0, none⟩ (.slice a0 l0 c0)).setCell ⟨rb, 1, none⟩ (.slice a1 l1 c1)).setCell ⟨rb, 2, none⟩ (.slice a2 l2 c2)).setCell ⟨rb, 3, none⟩ (.slice a3 l3 c3)).setCell ⟨rb, 4, none⟩ (.slice a4 l4 c4)).setCell ⟨rb, 5, none⟩ (.int .i64 s.due)) rb 6 (.int .i64 s.reply) _ _ _ j5
    have hfin : (((((((w5.setCell ⟨rb, 0, none⟩ (.slice a0 l0 c0)).setCell ⟨rb, 1, none⟩ (.slice a1 l1 c1)).setCell ⟨rb, 2, none⟩ (.slice a2 l2 c2)).setCell ⟨rb, 3, none⟩ (.slice a3 l3 c3)).setCell ⟨rb, 4, none⟩ (.slice a4 l4 c4)).setCell ⟨rb, 5, none⟩ (.int .i64 s.due)).setCell ⟨rb, 6, none⟩ (.int .i64 s.reply)).heap[rb]? = some (.cells #[.slice a0 l0 c0, .slice a1 l1 c1, .slice a2 l2 c2, .slice a3 l3 c3, .slice a4 l4 c4, .int .i64 s.due, .int .i64 s.reply] 31 (0, 0)) := by simpa using j6
    have q0 := cell_at (i := 0) hfin rfl
    have q1 := cell_at (i := 1) hfin rfl
    have q2 := cell_at (i := 2) hfin rfl
    have q3 := cell_at (i := 3) hfin rfl
    have q4 := cell_at (i := 4) hfin rfl
    have q5 := cell_at (i := 5) hfin rfl
    have q6 := cell_at (i := 6) hfin rfl
    clear hke hfin hrn hbX hrX j0 j1 j2 j3 j4 j5 j6
    go_wp2_with fail
    refine bodyPost_ret (v := .tuple #[.agg #[.slice a0 l0 c0, .slice a1 l1 c1, .slice a2 l2 c2, .slice a3 l3 c3, .slice a4 l4 c4, .int .i64 s.due, .int .i64 s.reply], .slice al ll cl, .int .i64 ef]) ?_ rfl ⟨_, n4, rfl, ⟨a0, a1, a2, a3, a4, l0, c0, l1, c1, l2, c2, l3, c3, l4, c4, s, al, ll, cl, xs, by rw [HEF.out], hfi.out, ⟨hb0, hb1, hb2, hb3, hb4⟩, hxl, hcl, hfx.out⟩, by omega, by omega, hfs.out, hfw.out⟩
    simp [results, Tryz.results9, go_sem, q0, q1, q2, q3, q4, q5, q6]
end Go.Proofs.YtjbaijgdkkccbaaGreatDoor

/- The law ReviewLevels, walked. -/
namespace Go.Proofs.YtjbaijgdkkccbaaGreatDoor
open Go.RowKit

theorem Glob.ltS {w : World} (h : Glob w) : 4 < w.heap.size ∧ 5 < w.heap.size ∧ 0 < w.heap.size := by
  obtain ⟨m, hm⟩ := h.most
  exact ⟨lt_of_cell (h.tabs.1 0 (by decide)), lt_of_cell (h.tabs.2 0 (by decide)).1, lt_of_cell hm⟩
def momF (tm : Int) : Int := if 0 ≤ tm ∧ tm < 5761440 then 0 else 1
theorem first3 (a b c : Int) : firstV [a, b, c] = if a ≠ 0 then a else if b ≠ 0 then b else c := by simp only [firstV]; split <;> (try split) <;> (try split) <;> first | rfl | omega
theorem first2 (a b : Int) : firstV [a, b] = if a ≠ 0 then a else b := by simp only [firstV]; split <;> (try split) <;> first | rfl | omega
theorem seenE_first (s : Set7) (xs : List Rev) (who : ByteArray) (p : Pair2) : seenE s xs who p = firstV [revsF s xs, if isKeyB who = true then 0 else 5, if inP s.pairs p.paper p.person = true then 0 else 8] := by
  rw [first3, seenE]
  by_cases h1 : revsF s xs ≠ 0
  · rw [if_pos h1, if_pos h1]
  · rw [if_neg h1, if_neg h1]
    cases isKeyB who <;> cases inP s.pairs p.paper p.person <;> simp
theorem levE_first (s : Set7) (xs : List Rev) (who : ByteArray) (p : Pair2) (tm : Int) : levE s xs who p tm = firstV [seenE s xs who p, momF tm] := by rw [first2, levE, momF]
theorem arr2 {cs : Array Value} (h : cs.size = 2) : ∃ a b, cs = #[a, b] := by
  match cs, h with
  | ⟨[a, b]⟩, _ => exact ⟨a, b, rfl⟩
/-- The new block of the pair, once it is written. -/
def PairAt (σ : St) (B : Nat) (v : Value) (w : World) : Prop := ∃ (b : Nat) (y : Pair2), v = .pointer (some ⟨b, 0, none⟩) ∧ B ≤ b ∧ b ≠ σ.b ∧ w.heap[b]? = some (.cells #[.string y.paper, .string y.person] 39 (0, 0))
theorem PairAt.stays (σ : St) (B : Nat) : Stays (fun w w' => But σ.b w w') (PairAt σ B) := fun _ _ _ k ⟨b, y, h1, h2, h3, h4⟩ => ⟨b, y, h1, h2, h3, k.heap h4 h3⟩
/-- What such a store keeps. -/
def KeepsBlk (σ : St) (B : Nat) (w w' : World) : Prop := ∀ v, PBlk σ B 39 2 v w → PBlk σ B 39 2 v w'
set_option maxRecDepth 100000 in
set_option maxHeartbeats 12800000 in
theorem reviewLevels_walk (a : Option Addr) (len cap : Nat) (w : World) (h : IsRow w a len cap) (hG : Glob w) (hP : Pow w) :
    Calls Tryz.prog 3 #[.slice a len cap] w fun e w' => e = .returned (.bool true) ∧ Below w.heap.size w w' := by
  have hst := h.start
  obtain ⟨σ, hσ⟩ : ∃ σ : St, σ = ⟨w.heap.size, a, len, cap⟩ := ⟨_, rfl⟩
  have hσb : σ.b = w.heap.size := by rw [hσ]
  rw [← hσ] at hst
  have hptr : (Value.pointer (some ⟨w.heap.size, 0, none⟩)) = Value.pointer (some ⟨σ.b, 0, none⟩) := by rw [hσb]
  have Hptr := Lib.hid hptr
  have Hσ := Lib.hid hσb
  have hk0 : But σ.b w (w.alloc (.cells #[.slice a len cap, .int .i64 0] 25)) := Kept.alloc _ _ _
  have hgl := hG.ltS
  have hpl := hP.lt
  have HG := Lib.hid (fun (wx : World) (k : But σ.b w wx) => (⟨hG.kept k (by omega) (by omega) (by omega), hP.kept k (by omega)⟩ : GlobP wx))
  clear hσ hσb hptr h hG hgl hP hpl
  go_enter Tryz.func3, Tryz.ntmps3
  go_upto_region 2 with fail
  simp only [Hptr.out]
  generalize w.alloc (.cells #[.slice a len cap, .int .i64 0] 25) = w0 at *
  have hl0 := hst.lt
  go_wp2_with fail
  refine (range_any σ 0 0 8 _ hst (by omega) (by omega) (by omega) (by omega)).mono ?_
  rintro e w1 ⟨v, n1, rfl, ⟨r, rfl, hr1, hr2⟩, -, hn1, hs1, hb1⟩
  obtain ⟨M, rfl⟩ := Int.eq_ofNat_of_zero_le hr1
  have hM : M ≤ 8 := by omega
  have hw1 := hk0.trans hb1
  clear hr1 hr2 hst hb1 hk0
  go_wp2_with fail
  refine (scene_any σ n1 _ M hs1 (by omega) (by omega) (fun wx k => (HG.out wx (hw1.trans k)).g)).mono ?_
  rintro e w2 ⟨v, n2, rfl, ⟨a0, a1, a2, a3, a4, l0, c0, l1, c1, l2, c2, l3, c3, l4, c4, s, al, ll, cl, xs, rfl, his, ⟨hb0, hb1, hb2, hb3, hb4⟩, hll, hcl, hsx⟩, -, hn2, hs2, hk2⟩
  have hw2 := hw1.trans hk2
  have hl2' := hs2.lt
  clear hs1 hw1 hk2
  have hk3 : All w2 (w2.alloc (.cells #[.slice a0 l0 c0, .slice a1 l1 c1, .slice a2 l2 c2, .slice a3 l3 c3, .slice a4 l4 c4, .int .i64 s.due, .int .i64 s.reply] 31)) := Kept.alloc _ _ _
  have hx3 := heap_at w2 (.cells #[.slice a0 l0 c0, .slice a1 l1 c1, .slice a2 l2 c2, .slice a3 l3 c3, .slice a4 l4 c4, .int .i64 s.due, .int .i64 s.reply] 31) _ rfl
  obtain ⟨xb, hxb⟩ : ∃ b, b = w2.heap.size := ⟨_, rfl⟩
  have HXB := Lib.hid hxb
  rw [← hxb] at hx3
  have hxs : σ.b < xb := by omega
  have his3 := his.keep hk3.all
  have hsx3 := hsx.keep RRev.ok hk3.all
  have hs3 := hs2.keep hk3
  have hw3 := hw2.trans hk3.all
  clear hxb his hsx hs2 hw2 hk3
  obtain ⟨ef, hef⟩ : ∃ z, z = revsF s xs := ⟨_, rfl⟩
  have HEF := Lib.hid hef
  rw [← hef]
  clear hef
  go_upto_region 3 with fail
  simp only [← HXB.out]
  generalize w2.alloc (.cells #[.slice a0 l0 c0, .slice a1 l1 c1, .slice a2 l2 c2, .slice a3 l3 c3, .slice a4 l4 c4, .int .i64 s.due, .int .i64 s.reply] 31) = w3 at *
  have hl3 := hs3.lt
  have HX := Lib.hid (fun (wx : World) (k : But σ.b w3 wx) => k.heap hx3 (by omega))
  have HIS := Lib.hid (fun (wx : World) (k : But σ.b w3 wx) => his3.keep k)
  have HSX := Lib.hid (fun (wx : World) (k : But σ.b w3 wx) => hsx3.keep RRev.ok k)
  have HW3 := Lib.hid hw3
  have HST := Lib.hid hs3
  clear hx3 his3 hsx3 hs3 hw3
  go_wp2_with fail
  refine wp_region_st 10 7 9 8 (by kernel_rfl) (by kernel_rfl) (by kernel_rfl) (by kernel_rfl) (by kernel_rfl) (by decide) (by kernel_rfl) (GStr 100 σ n2 w3)
    (DL [PIs (.pointer (some ⟨σ.b, 0, none⟩)), PStr (fun r => r.size ≤ 1000000), PIs (.pointer (some ⟨σ.b, 0, none⟩)), PIs (.agg #[.slice a0 l0 c0, .slice a1 l1 c1, .slice a2 l2 c2, .slice a3 l3 c3, .slice a4 l4 c4, .int .i64 s.due, .int .i64 s.reply]), PPrV, PIs (.pointer (some ⟨σ.b, 0, none⟩)), PNum (fun _ => True), PBlk σ w3.heap.size 39 2, PStr (fun r => r.size ≤ 1000000)]) (PairAt σ w3.heap.size) (fun w w' => But σ.b w w') (KeepsBlk σ w3.heap.size)
    (DL.keep (by simp only [List.forall_mem_cons, List.not_mem_nil, false_implies, implies_true, and_true]; exact ⟨PIs.stays _ _, PStr.stays _ _, PIs.stays _ _, PIs.stays _ _, (fun _ _ _ _ h => h), PIs.stays _ _, PNum.stays _ _, PBlk.stays _ _ _ _, PStr.stays _ _⟩))
    (DL.keep (by simp only [List.forall_mem_cons, List.not_mem_nil, false_implies, implies_true, and_true]; exact ⟨(fun _ _ _ _ h => h), (fun _ _ _ _ h => h), (fun _ _ _ _ h => h), (fun _ _ _ _ h => h), (fun _ _ _ _ h => h), (fun _ _ _ _ h => h), (fun _ _ _ _ h => h), (fun v _ _ m h => m v h), (fun _ _ _ _ h => h)⟩))
    (fun v w w' m h => PairAt.stays _ _ v w w' m h) ⟨n2, Nat.le_refl _, by omega, HST.out.keep (Kept.drew _ _), Kept.drew _ _⟩ ?_ ?_ ?_
  · intro i o t ho hd hi k' a' wx hk hg hdf hts hoth hdeps
    obtain ⟨m, hm1, hm2, hst, hbut⟩ := hg
    have hlt9 := hst.lt
    have hszx := hbut.size
    have hz : i = 0 ∨ i = 1 ∨ i = 2 ∨ i = 3 ∨ i = 4 ∨ i = 5 ∨ i = 6 ∨ i = 7 ∨ i = 8 ∨ i = 9 := by omega
    rcases hz with rfl | rfl | rfl | rfl | rfl | rfl | rfl | rfl | rfl | rfl
    · obtain rfl := Option.some.inj ho
      obtain rfl := Option.some.inj hd
      have e0 : a'.tmps.getD 3 undef = (.pointer (some ⟨σ.b, 0, none⟩)) := tmp_of ((hoth 3 (by decide)).trans rfl)
      clear hoth hdeps hdf hts ho
      refine wp_via (fun K' hK => ?_)
      have HK := Lib.hid hK
      clear hK
      go_simp
      exact HK.out _ _ ⟨_, rfl, GStr.same hm1 hm2 hst hbut, Kept.refl _ _, rfl⟩
    · obtain rfl := Option.some.inj ho
      obtain rfl := Option.some.inj hd
      have e0 : a'.tmps.getD 31 undef = (.pointer (some ⟨σ.b, 0, none⟩)) := hdeps 0 (by decide) 31 rfl
      clear hoth hdeps hdf hts ho
      refine wp_via (fun K' hK => ?_)
      have HK := Lib.hid hK
      clear hK
      go_simp
      refine (who_any σ m _ hst (by omega)).mono ?_
      rintro e w2x ⟨v, m2, rfl, ⟨r, rfl, hr⟩, hm3, hm4, hst2, hb2x⟩
      exact HK.out _ _ ⟨_, rfl, GStr.call hm1 hm2 hbut hm3 (by omega) hst2 hb2x, hb2x, ⟨r, rfl, hr⟩⟩
    · obtain rfl := Option.some.inj ho
      obtain rfl := Option.some.inj hd
      have e0 : a'.tmps.getD 3 undef = (.pointer (some ⟨σ.b, 0, none⟩)) := tmp_of ((hoth 3 (by decide)).trans rfl)
      clear hoth hdeps hdf hts ho
      refine wp_via (fun K' hK => ?_)
      have HK := Lib.hid hK
      clear hK
      go_simp
      exact HK.out _ _ ⟨_, rfl, GStr.same hm1 hm2 hst hbut, Kept.refl _ _, rfl⟩
    · obtain rfl := Option.some.inj ho
      obtain rfl := Option.some.inj hd
      have e0 : a'.tmps.getD 4 undef = (.pointer (some ⟨xb, 0, none⟩)) := tmp_of ((hoth 4 (by decide)).trans rfl)
      have hxx := HX.out wx hbut
      have d0 := cell_at (i := 0) hxx rfl
      have d1 := cell_at (i := 1) hxx rfl
      have d2 := cell_at (i := 2) hxx rfl
      have d3 := cell_at (i := 3) hxx rfl
      have d4 := cell_at (i := 4) hxx rfl
      have d5 := cell_at (i := 5) hxx rfl
      have d6 := cell_at (i := 6) hxx rfl
      clear hxx
      clear hoth hdeps hdf hts ho
      refine wp_via (fun K' hK => ?_)
      have HK := Lib.hid hK
      clear hK
      go_simp
      exact HK.out _ _ ⟨_, rfl, GStr.same hm1 hm2 hst hbut, Kept.refl _ _, rfl⟩
    · obtain rfl := Option.some.inj ho
      obtain rfl := Option.some.inj hd
      have e0 : a'.tmps.getD 33 undef = (.pointer (some ⟨σ.b, 0, none⟩)) := hdeps 2 (by decide) 33 rfl
      have e1 : a'.tmps.getD 34 undef = (.agg #[.slice a0 l0 c0, .slice a1 l1 c1, .slice a2 l2 c2, .slice a3 l3 c3, .slice a4 l4 c4, .int .i64 s.due, .int .i64 s.reply]) := hdeps 3 (by decide) 34 rfl
      clear hoth hdeps hdf hts ho
      refine wp_via (fun K' hK => ?_)
      have HK := Lib.hid hK
      clear hK
      go_simp
      refine (pairOfS_any σ m _ a0 l0 c0 a1 l1 c1 a2 l2 c2 a3 l3 c3 a4 l4 c4 s hst (by omega) (HIS.out _ hbut) (by omega)).mono ?_
      rintro e w2x ⟨v, m2, rfl, ⟨y, rfl⟩, hm3, hm4, hst2, hb2x⟩
      exact HK.out _ _ ⟨_, rfl, GStr.call hm1 hm2 hbut hm3 (by omega) hst2 hb2x, hb2x, ⟨y, rfl⟩⟩
    · obtain rfl := Option.some.inj ho
      obtain rfl := Option.some.inj hd
      have e0 : a'.tmps.getD 3 undef = (.pointer (some ⟨σ.b, 0, none⟩)) := tmp_of ((hoth 3 (by decide)).trans rfl)
      clear hoth hdeps hdf hts ho
      refine wp_via (fun K' hK => ?_)
      have HK := Lib.hid hK
      clear hK
      go_simp
      exact HK.out _ _ ⟨_, rfl, GStr.same hm1 hm2 hst hbut, Kept.refl _ _, rfl⟩
    · obtain rfl := Option.some.inj ho
      obtain rfl := Option.some.inj hd
      have e0 : a'.tmps.getD 36 undef = (.pointer (some ⟨σ.b, 0, none⟩)) := hdeps 5 (by decide) 36 rfl
      clear hoth hdeps hdf hts ho
      refine wp_via (fun K' hK => ?_)
      have HK := Lib.hid hK
      clear hK
      go_simp
      refine (moment10_any σ m _ hst (by omega)).mono ?_
      rintro e w2x ⟨v, m2, rfl, ⟨r, rfl, -⟩, hm3, hm4, hst2, hb2x⟩
      exact HK.out _ _ ⟨_, rfl, GStr.call hm1 hm2 hbut hm3 (by omega) hst2 hb2x, hb2x, ⟨r, rfl, trivial⟩⟩
    · obtain rfl := Option.some.inj ho
      obtain rfl := Option.some.inj hd
      clear hoth hdeps hdf hts ho
      refine wp_via (fun K' hK => ?_)
      have HK := Lib.hid hK
      clear hK
      go_simp
      exact HK.out _ _ ⟨_, rfl, GStr.alloc _ hm1 hm2 hst hbut, Kept.alloc _ _ _, ⟨wx.heap.size, _, rfl, hszx, Nat.ne_of_gt hlt9, heap_at _ _ _ rfl, rfl⟩⟩
    · obtain rfl := Option.some.inj ho
      obtain rfl := Option.some.inj hd
      obtain ⟨r, e0, hr⟩ : PStr (fun r => r.size ≤ 1000000) (a'.tmps.getD 32 undef) wx := hdeps 1 (by decide) 32 rfl
      clear hoth hdeps hdf hts ho
      refine wp_via (fun K' hK => ?_)
      have HK := Lib.hid hK
      clear hK
      go_simp
      exact HK.out _ _ ⟨_, rfl, GStr.same hm1 hm2 hst hbut, Kept.refl _ _, ⟨r, rfl, hr⟩⟩
    · obtain rfl := Option.some.inj ho
      exact nomatch hd
  · intro o ho k' a' wx hk hg hdf hts hoth hdeps
    obtain ⟨m, hm1, hm2, hst, hbut⟩ := hg
    have hszx := hbut.size
    obtain rfl := Option.some.inj ho
    obtain ⟨y, e35⟩ : PPrV (a'.tmps.getD 35 undef) wx := hdeps 4 (by decide) 35 rfl
    obtain ⟨b, cs, e8, hB, hne, hb, hcs⟩ : PBlk σ w3.heap.size 39 2 (a'.tmps.getD 8 undef) wx := hdeps 7 (by decide) 8 rfl
    obtain ⟨q0, q1, rfl⟩ := arr2 hcs
    have hsb : σ.b < b := by omega
    have u0 := cell_at (i := 0) hb rfl
    have u1 := cell_at (i := 1) hb rfl
    have z0 := frozen_at (i := 0) hb
    have z1 := frozen_at (i := 1) hb
    have j0 := heap_setCell_at wx b 0 (.string y.paper) _ _ _ hb
    have j1 := heap_setCell_at (wx.setCell ⟨b, 0, none⟩ (.string y.paper)) b 1 (.string y.person) _ _ _ j0
    simp only [List.setIfInBounds_toArray, List.set_cons_zero, List.set_cons_succ] at j1
    have hfin := Lib.hid j1
    have hst2 := Lib.hid (show Str σ ((wx.setCell ⟨b, 0, none⟩ (.string y.paper)).setCell ⟨b, 1, none⟩ (.string y.person)) m from (hst.set ⟨b, 0, none⟩ (.string y.paper) hsb).set ⟨b, 1, none⟩ (.string y.person) hsb)
    have hbt2 := Lib.hid (show But σ.b w3 ((wx.setCell ⟨b, 0, none⟩ (.string y.paper)).setCell ⟨b, 1, none⟩ (.string y.person)) from (hbut.then_setNew ⟨b, 0, none⟩ (.string y.paper) hB).then_setNew ⟨b, 1, none⟩ (.string y.person) hB)
    have hkp : KeepsBlk σ w3.heap.size wx ((wx.setCell ⟨b, 0, none⟩ (.string y.paper)).setCell ⟨b, 1, none⟩ (.string y.person)) := fun v ⟨b2, cs2, h1, h2, h3, h4, h5⟩ => by
      by_cases e : b2 = b
      · subst e; exact ⟨b2, _, h1, h2, h3, hfin.out, rfl⟩
      · exact ⟨b2, cs2, h1, h2, h3, (((Kept.refl (fun k => k = b2) wx).then_setCell ⟨b, 0, none⟩ (.string y.paper) (fun h => e h.symm)).then_setCell ⟨b, 1, none⟩ (.string y.person) (fun h => e h.symm)).heap h4 rfl, h5⟩
    have HKP := Lib.hid hkp
    clear hoth hdeps hdf hts ho j0 j1 hcs hb hst hbut hkp
    refine wp_via (fun K' hK => ?_)
    have HK := Lib.hid hK
    clear hK
    go_simp
    exact HK.out _ _ ⟨rfl, ⟨m, hm1, by omega, hst2.out, hbt2.out⟩, HKP.out, ⟨b, y, e8, hB, hne, hfin.out⟩⟩
  · intro wx f hg hd hE
    obtain ⟨m4, hm1, hm2, hst, hbut⟩ := hg
    obtain ⟨who, e7, hwz⟩ : PStr (fun r => r.size ≤ 1000000) (f 7) wx := hd 8 7 (by decide) rfl
    obtain ⟨tm, e37, -⟩ : PNum (fun _ => True) (f 37) wx := hd 6 37 (by decide) rfl
    obtain ⟨pb, p, e8, hpB, hpne, hpb⟩ := hE
    rw [show dsts _ 10 = [31, 32, 33, 34, 35, 36, 37, 8, 7] from by kernel_rfl]
    simp only [List.map_cons, List.map_nil, puts, Act.put, e7, e37, e8, List.drop_succ_cons, List.drop_zero]
    generalize f 31 = f31
    generalize f 32 = f32
    generalize f 33 = f33
    generalize f 34 = f34
    generalize f 35 = f35
    generalize f 36 = f36
    clear hd e7 e8 e37
    simp only [List.setIfInBounds_toArray, List.set_cons_zero, List.set_cons_succ]
    have hx6 := HX.out _ hbut
    have his6 := (HIS.out _ hbut).mono (fun _ _ => trivial)
    have hsx6 := (HSX.out _ hbut).mono RRev.ok (fun _ _ => trivial)
    have hw6 := HW3.out.trans hbut
    have HG6 := Lib.hid (fun (wy : World) (k : All wx wy) => HG.out wy (hw6.trans k.all))
    have hend := Lib.hid (show ∀ wy, All wx wy → Below w.heap.size w wy from fun wy k => (hw6.trans k.all).below (Nat.le_refl _) (fun k hk => by have := Hσ.out; omega))
    obtain ⟨ts, hts, hst6, -⟩ := hsx6.raws
    have HCC := Lib.hid (fun (wy : World) (k : All wx wy) => (⟨k.heap hpb trivial, k.heap hx6 trivial⟩ : wy.heap[pb]? = _ ∧ wy.heap[xb]? = _))
    have HIS6 := Lib.hid (fun (wy : World) (k : All wx wy) => his6.keep k)
    have HST6 := Lib.hid (fun (wy : World) (k : All wx wy) => hst6.keep RRaw.ok k)
    have HC1 := Lib.hid (levelP_any a0 l0 c0 a1 l1 c1 a2 l2 c2 a3 l3 c3 a4 l4 c4 s al ll cl xs ts who hwz p tm wx his6 hsx6 hst6 (by omega) hcl (HG6.out wx (Kept.refl _ _)).g hts)
    have HC2 := Lib.hid (fun (wy : World) (k : All wx wy) => since_any a0 l0 c0 a1 l1 c1 a2 l2 c2 a3 l3 c3 a4 l4 c4 s al ll cl xs ts who hwz p wy (his6.keep k) (hsx6.keep RRev.ok k) (hst6.keep RRaw.ok k) (by omega) hcl (HG6.out wy k).g hts)
    obtain ⟨lv, hlv⟩ : ∃ z, z = levelF s ts who p tm := ⟨_, rfl⟩
    have HLV := Lib.hid hlv
    obtain ⟨so, hso⟩ : ∃ z, z = sinceB s ts who p := ⟨_, rfl⟩
    obtain ⟨se, hse⟩ : ∃ z, z = seenE s xs who p := ⟨_, rfl⟩
    obtain ⟨le, hle⟩ : ∃ z, z = levE s xs who p tm := ⟨_, rfl⟩
    rw [← hlv, ← hle] at HC1
    rw [← hse, ← hso] at HC2
    have HSO := Lib.hid (fun (h : se = 0) => (show so = sinceE s ts who p from by rw [hso]; exact since_eq (by rw [hts]; exact seenE_zero (hse.symm.trans h)) who p))
    obtain ⟨kf, hkf⟩ : ∃ z : Int, z = if isKeyB who = true then 0 else 5 := ⟨_, rfl⟩
    have HKF := Lib.hid hkf
    obtain ⟨pf, hpf⟩ : ∃ z : Int, z = if inP s.pairs p.paper p.person = true then 0 else 8 := ⟨_, rfl⟩
    have HPF := Lib.hid hpf
    obtain ⟨mf, hmf⟩ : ∃ z, z = momF tm := ⟨_, rfl⟩
    have HMF := Lib.hid hmf
    have HSE := Lib.hid (show firstV [ef, kf, pf] = se from by rw [hse, seenE_first, HEF.out, hkf, hpf])
    have HLE := Lib.hid (show firstV [se, mf] = le from by rw [hle, levE_first, ← hse, hmf])
    obtain ⟨nv, hnv⟩ : ∃ z : Int, z = if le = 0 then lv else 0 := ⟨_, rfl⟩
    have HNV := Lib.hid hnv
    obtain ⟨mv, hmv⟩ : ∃ z : Int, z = if se = 0 then so.getD 0 else 0 := ⟨_, rfl⟩
    have HMV := Lib.hid hmv
    obtain ⟨fv, hfv⟩ : ∃ z : Int, z = if se ≠ 0 then se else if so.isSome = true then 0 else 8 := ⟨_, rfl⟩
    have HFV := Lib.hid hfv
    obtain ⟨t1, t3⟩ := HCC.out _ (Kept.refl _ _)
    have p0 := cell_at (i := 0) t1 rfl
    have p1 := cell_at (i := 1) t1 rfl
    have e0 := cell_at (i := 0) t3 rfl
    have e1 := cell_at (i := 1) t3 rfl
    have e2 := cell_at (i := 2) t3 rfl
    have e3 := cell_at (i := 3) t3 rfl
    have e4 := cell_at (i := 4) t3 rfl
    have e5 := cell_at (i := 5) t3 rfl
    have e6 := cell_at (i := 6) t3 rfl
    clear t1 t3
    clear hlv hso hse hle hkf hpf hmf hnv hmv hfv hx6 his6 hsx6 hst6 hw6 hts hst hbut hm1 hm2 hpb
    go_wp2_with fail
    refine HC1.out.mono ?_
    rintro e w7 ⟨hv, hw7⟩
    unfold NumV at hv
    rw [← HNV.out] at hv
    subst hv
    clear e0 e1 e2 e3 e4 e5 e6 p0 p1
    obtain ⟨t1, t3⟩ := HCC.out _ hw7
    have p0 := cell_at (i := 0) t1 rfl
    have p1 := cell_at (i := 1) t1 rfl
    have e0 := cell_at (i := 0) t3 rfl
    have e1 := cell_at (i := 1) t3 rfl
    have e2 := cell_at (i := 2) t3 rfl
    have e3 := cell_at (i := 3) t3 rfl
    have e4 := cell_at (i := 4) t3 rfl
    have e5 := cell_at (i := 5) t3 rfl
    have e6 := cell_at (i := 6) t3 rfl
    clear t1 t3
    go_wp2_with fail
    refine (HC2.out _ hw7).mono ?_
    rintro e w8 ⟨hv, hw8'⟩
    have hw8 := hw7.trans hw8'
    unfold SinV at hv
    rw [← HMV.out, ← HFV.out] at hv
    subst hv
    clear e0 e1 e2 e3 e4 e5 e6 p0 p1 hw8' hw7
    go_wp2_with fail
    refine wp_region_inv 8 (by kernel_rfl) (by kernel_rfl) (by kernel_rfl) (fun _ wx => All w8 wx)
      (DL [QIs (.int .i64 ef), QIs (.string who), QIs (.int .i64 kf), QIs (.agg #[.slice a0 l0 c0, .slice a1 l1 c1, .slice a2 l2 c2, .slice a3 l3 c3, .slice a4 l4 c4, .int .i64 s.due, .int .i64 s.reply]), QIs (.agg #[.string p.paper, .string p.person]), QIs (.int .i64 pf), QInts [ef, kf, pf] 33, QIs (.int .i64 se)]) All
      (DL.keep (by simp only [List.forall_mem_cons, List.not_mem_nil, false_implies, implies_true, and_true]; exact ⟨QIs.stays _, QIs.stays _, QIs.stays _, QIs.stays _, QIs.stays _, QIs.stays _, QInts.stays _ _, QIs.stays _⟩)) (Kept.drew _ _) ?_ ?_
    · intro i o t ho hd hi k' a' wx hk' hg hdf hts hoth hdeps
      obtain ⟨t1, t3⟩ := HCC.out wx (hw8.trans hg)
      have p0 := cell_at (i := 0) t1 rfl
      have p1 := cell_at (i := 1) t1 rfl
      have d0 := cell_at (i := 0) t3 rfl
      have d1 := cell_at (i := 1) t3 rfl
      have d2 := cell_at (i := 2) t3 rfl
      have d3 := cell_at (i := 3) t3 rfl
      have d4 := cell_at (i := 4) t3 rfl
      have d5 := cell_at (i := 5) t3 rfl
      have d6 := cell_at (i := 6) t3 rfl
      clear t1 t3
      have hz : i = 0 ∨ i = 1 ∨ i = 2 ∨ i = 3 ∨ i = 4 ∨ i = 5 ∨ i = 6 ∨ i = 7 := by omega
      rcases hz with rfl | rfl | rfl | rfl | rfl | rfl | rfl | rfl
      · obtain rfl := Option.some.inj ho
        obtain rfl := Option.some.inj hd
        have e0 : a'.tmps.getD 6 undef = .int .i64 ef := tmp_of ((hoth 6 (by decide)).trans rfl)
        clear hoth hdeps hdf hts ho
        refine wp_via (fun K' hK => ?_)
        have HK := Lib.hid hK
        clear hK
        go_simp
        exact HK.out _ _ ⟨_, rfl, hg, Kept.refl _ _, rfl⟩
      · obtain rfl := Option.some.inj ho
        obtain rfl := Option.some.inj hd
        have e0 : a'.tmps.getD 7 undef = .string who := tmp_of ((hoth 7 (by decide)).trans rfl)
        clear hoth hdeps hdf hts ho
        refine wp_via (fun K' hK => ?_)
        have HK := Lib.hid hK
        clear hK
        go_simp
        exact HK.out _ _ ⟨_, rfl, hg, Kept.refl _ _, rfl⟩
      · obtain rfl := Option.some.inj ho
        obtain rfl := Option.some.inj hd
        have e0 : a'.tmps.getD 56 undef = .string who := hdeps 1 (by decide) 56 rfl
        clear hoth hdeps hdf hts ho
        refine wp_via (fun K' hK => ?_)
        have HK := Lib.hid hK
        clear hK
        go_simp
        refine (keyFault_any who _ hwz).mono ?_
        rintro e w2x ⟨rfl, hk2x⟩
        exact HK.out _ _ ⟨_, rfl, hg.trans hk2x, hk2x, by rw [HKF.out]; rfl⟩
      · obtain rfl := Option.some.inj ho
        obtain rfl := Option.some.inj hd
        have e0 : a'.tmps.getD 4 undef = .pointer (some ⟨xb, 0, none⟩) := tmp_of ((hoth 4 (by decide)).trans rfl)
        clear hoth hdeps hdf hts ho
        refine wp_via (fun K' hK => ?_)
        have HK := Lib.hid hK
        clear hK
        go_simp
        exact HK.out _ _ ⟨_, rfl, hg, Kept.refl _ _, rfl⟩
      · obtain rfl := Option.some.inj ho
        obtain rfl := Option.some.inj hd
        have e0 : a'.tmps.getD 8 undef = .pointer (some ⟨pb, 0, none⟩) := tmp_of ((hoth 8 (by decide)).trans rfl)
        clear hoth hdeps hdf hts ho
        refine wp_via (fun K' hK => ?_)
        have HK := Lib.hid hK
        clear hK
        go_simp
        exact HK.out _ _ ⟨_, rfl, hg, Kept.refl _ _, rfl⟩
      · obtain rfl := Option.some.inj ho
        obtain rfl := Option.some.inj hd
        have e0 : a'.tmps.getD 58 undef = .agg #[.slice a0 l0 c0, .slice a1 l1 c1, .slice a2 l2 c2, .slice a3 l3 c3, .slice a4 l4 c4, .int .i64 s.due, .int .i64 s.reply] := hdeps 3 (by decide) 58 rfl
        have e1 : a'.tmps.getD 59 undef = .agg #[.string p.paper, .string p.person] := hdeps 4 (by decide) 59 rfl
        clear hoth hdeps hdf hts ho
        refine wp_via (fun K' hK => ?_)
        have HK := Lib.hid hK
        clear hK
        go_simp
        refine (pairFault_any a0 l0 c0 a1 l1 c1 a2 l2 c2 a3 l3 c3 a4 l4 c4 s p _ (HIS6.out _ (hw8.trans hg))).mono ?_
        rintro e w2x ⟨rfl, hk2x⟩
        exact HK.out _ _ ⟨_, rfl, hg.trans hk2x, hk2x, by rw [HPF.out]; rfl⟩
      · obtain rfl := Option.some.inj ho
        obtain rfl := Option.some.inj hd
        have e0 : a'.tmps.getD 55 undef = .int .i64 ef := hdeps 0 (by decide) 55 rfl
        have e0q : a'.tmps[55]?.getD undef = .int .i64 ef := by rw [← Array.getD_eq_getD_getElem?]; exact e0
        have e1 : a'.tmps.getD 57 undef = .int .i64 kf := hdeps 2 (by decide) 57 rfl
        have e1q : a'.tmps[57]?.getD undef = .int .i64 kf := by rw [← Array.getD_eq_getD_getElem?]; exact e1
        have e2 : a'.tmps.getD 60 undef = .int .i64 pf := hdeps 5 (by decide) 60 rfl
        have e2q : a'.tmps[60]?.getD undef = .int .i64 pf := by rw [← Array.getD_eq_getD_getElem?]; exact e2
        clear hoth hdeps hdf hts ho
        refine wp_via (fun K' hK => ?_)
        have HK := Lib.hid hK
        clear hK
        go_simp
        exact HK.out _ _ ⟨_, rfl, hg.then_alloc _, Kept.alloc _ _ _, ⟨wx.heap.size, rfl, heap_at _ _ _ rfl⟩⟩
      · obtain rfl := Option.some.inj ho
        obtain rfl := Option.some.inj hd
        obtain ⟨b9, e0, hbb⟩ : QInts [ef, kf, pf] 33 (a'.tmps.getD 61 undef) wx := hdeps 6 (by decide) 61 rfl
        replace e0 : a'.tmps.getD 61 undef = .slice (some ⟨b9, 0, none⟩) 3 3 := e0
        clear hoth hdeps hdf hts ho
        refine wp_via (fun K' hK => ?_)
        have HK := Lib.hid hK
        clear hK
        go_simp
        refine (errsV_any (some ⟨b9, 0, none⟩) 3 3 [ef, kf, pf] _ (Sl.lit_ints _ hbb rfl trivial) (by omega)).mono ?_
        rintro e w2x ⟨rfl, rfl⟩
        exact HK.out _ _ ⟨_, rfl, hg, Kept.refl _ _, by rw [← HSE.out]; rfl⟩
    · intro wx f hg hd
      have e62f : f 62 = .int .i64 se := hd 7 62 (by decide) rfl
      rw [show dsts _ 8 = [55, 56, 57, 58, 59, 60, 61, 62] from by kernel_rfl]
      simp only [List.map_cons, List.map_nil, puts, Act.put, e62f, List.drop_succ_cons, List.drop_zero]
      generalize f 55 = f55
      generalize f 56 = f56
      generalize f 57 = f57
      generalize f 58 = f58
      generalize f 59 = f59
      generalize f 60 = f60
      generalize f 61 = f61
      clear hd e62f f
      simp only [List.setIfInBounds_toArray, List.set_cons_zero, List.set_cons_succ]
      have hw9 := hw8.trans hg
      clear hg hw8
      go_wp2_with fail
      refine (momentFault_any tm _).mono ?_
      rintro e w' ⟨rfl, rfl⟩
      rw [show (if 0 ≤ tm ∧ tm < 5761440 then (0 : Int) else 1) = mf from by rw [HMF.out]; rfl]
      go_wp2_with fail
      refine (errsV_any (some ⟨_, 0, none⟩) 2 2 [se, mf] _ (Sl.lit_ints _ (heap_at _ _ _ rfl) rfl trivial) (by omega)).mono ?_
      rintro e w10 ⟨rfl, hh⟩
      have hw10 := hw9.trans (show All _ w10 from by rw [← hh]; exact Kept.alloc _ _ _)
      clear hh hw9
      rw [HLE.out]
      obtain ⟨eb, heb⟩ : ∃ b : Bool, (le == 0) = b := ⟨_, rfl⟩
      go_upto_if 69 with fail
      go_cut [16] (fun v wy => v = .int .i64 nv ∧ All w10 wy)
      case first =>
        cases eb with
        | false =>
          have hne : le ≠ 0 := by simpa using heb
          have HF := Lib.hid (show (0 : Int) = nv from by rw [HNV.out, if_neg hne])
          clear hne heb
          go_wp2_with fail
          go_meet
          exact ⟨by rw [← HF.out], Kept.refl _ _⟩
        | true =>
          have h0 : le = 0 := by simpa using heb
          have HF := Lib.hid (show lv = nv from by rw [HNV.out, if_pos h0])
          clear h0 heb
          obtain ⟨t1, t3⟩ := HCC.out _ hw10
          have p0 := cell_at (i := 0) t1 rfl
          have p1 := cell_at (i := 1) t1 rfl
          have e0 := cell_at (i := 0) t3 rfl
          have e1 := cell_at (i := 1) t3 rfl
          have e2 := cell_at (i := 2) t3 rfl
          have e3 := cell_at (i := 3) t3 rfl
          have e4 := cell_at (i := 4) t3 rfl
          have e5 := cell_at (i := 5) t3 rfl
          have e6 := cell_at (i := 6) t3 rfl
          clear t1 t3
          go_wp2_with fail
          refine (levelOf_any a0 l0 c0 a1 l1 c1 a2 l2 c2 a3 l3 c3 a4 l4 c4 s al ll cl ts who hwz p tm _ (HIS6.out _ hw10) (HST6.out _ hw10) (by omega)).mono ?_
          rintro e w11 ⟨rfl, hk11⟩
          rw [← HLV.out, HF.out]
          go_wp2_with fail
          go_meet
          exact ⟨rfl, hk11⟩
      case rest =>
        obtain ⟨rfl, hk11⟩ := hcut
        obtain ⟨w11, rfl⟩ : ∃ x : World, x = wc := ⟨_, rfl⟩
        have hw11 := hw10.trans hk11
        clear heb hk11 hw10
        obtain ⟨eb2, heb⟩ : ∃ b : Bool, (se == 0) = b := ⟨_, rfl⟩
        go_upto_if 77 with fail
        go_cut [14, 17] (fun x y wy => x = .int .i64 fv ∧ y = .int .i64 mv ∧ All w11 wy)
        case first =>
          cases eb2 with
          | false =>
            have hne : se ≠ 0 := by simpa using heb
            have HF1 := Lib.hid (show se = fv from by rw [HFV.out, if_pos hne])
            have HF2 := Lib.hid (show (0 : Int) = mv from by rw [HMV.out, if_neg hne])
            clear hne heb
            go_wp2_with fail
            go_meet
            exact ⟨by rw [← HF1.out], by rw [← HF2.out], Kept.refl _ _⟩
          | true =>
            have h0 : se = 0 := by simpa using heb
            have HF1 := Lib.hid (show (if so.isSome = true then (0 : Int) else 8) = fv from by rw [HFV.out]; simp [h0])
            have HF2 := Lib.hid (show so.getD 0 = mv from by rw [HMV.out, if_pos h0])
            have HS := Lib.hid (HSO.out h0)
            clear h0 heb
            obtain ⟨t1, t3⟩ := HCC.out _ hw11
            have p0 := cell_at (i := 0) t1 rfl
            have p1 := cell_at (i := 1) t1 rfl
            have e0 := cell_at (i := 0) t3 rfl
            have e1 := cell_at (i := 1) t3 rfl
            have e2 := cell_at (i := 2) t3 rfl
            have e3 := cell_at (i := 3) t3 rfl
            have e4 := cell_at (i := 4) t3 rfl
            have e5 := cell_at (i := 5) t3 rfl
            have e6 := cell_at (i := 6) t3 rfl
            clear t1 t3
            go_wp2_with fail
            refine (sinceOf_any a0 l0 c0 a1 l1 c1 a2 l2 c2 a3 l3 c3 a4 l4 c4 s al ll cl ts who hwz p _ (HIS6.out _ hw11) (HST6.out _ hw11) (by omega)).mono ?_
            rintro e w12 ⟨hv, hk12⟩
            unfold SinW at hv
            rw [← HS.out, HF2.out] at hv
            subst hv
            clear e0 e1 e2 e3 e4 e5 e6 p0 p1
            obtain ⟨sb, hsb⟩ : ∃ z, z = so.isSome := ⟨_, rfl⟩
            rw [← hsb] at HF1 ⊢
            clear hsb
            go_wp2_with fail
            refine (whenV_any _ _ _).mono ?_
            rintro e w' ⟨rfl, rfl⟩
            have HF3 := Lib.hid (show (if (!sb) = true then (8 : Int) else 0) = fv from by rw [← HF1.out]; cases sb <;> rfl)
            rw [HF3.out]
            go_wp2_with fail
            go_meet
            exact ⟨rfl, rfl, hk12⟩
        case rest =>
          obtain ⟨rfl, rfl, hk12⟩ := hcut
          obtain ⟨w12, rfl⟩ : ∃ x : World, x = wc := ⟨_, rfl⟩
          have hw12 := hw11.trans hk12
          have hz1 : (le == le) = true := by simp
          have hz2 : (nv == nv) = true := by simp
          have hz3 : (fv == fv) = true := by simp
          have hz4 : (mv == mv) = true := by simp
          clear heb hk12 hw11
          go_wp2_with fail
          refine (asked_any _ (HG6.out _ hw12).g).mono ?_
          rintro e we ⟨rfl, hwe⟩
          go_wp2_with fail
          go_ret
          exact ⟨rfl, hend.out _ (hw12.trans hwe)⟩
end Go.Proofs.YtjbaijgdkkccbaaGreatDoor
