/- scene: a setup with reviews. -/
import Derived.Test.YthhmgblcccbdaaaGreatDoorBv
import Derived.Test.YthhmgblcccbdaaaGreatDoorMx
import Derived.Test.YthhmgblcccbdaaaGreatDoorMh
import Derived.Test.YthhmgblcccbdaaaGreatDoorZn
import Derived.Test.YthhmgblcccbdaaaGreatDoorRt
import Derived.Test.YthhmgblcccbdaaaGreatDoorFs
import Derived.Test.YthhmgblcccbdaaaGreatDoorAj
import Derived.Test.YthhmgblcccbdaaaGreatDoorAk
import Derived.Test.YthhmgblcccbdaaaGreatDoorAw
import Derived.Test.YthhmgblcccbdaaaGreatDoorWi
namespace Go.Proofs.YthhmgblcccbdaaaGreatDoor
open Go.RowKit

def PScene (σ : St) (hi : Nat) (v : Value) (w : World) : Prop := ∃ (a0 a1 a2 a3 a4 : Option Addr) (l0 c0 l1 c1 l2 c2 l3 c3 l4 c4 : Nat) (s : Set7) (al : Option Addr) (ll cl : Nat) (xs : List Rev), v = .tuple #[.agg #[.slice a0 l0 c0, .slice a1 l1 c1, .slice a2 l2 c2, .slice a3 l3 c3, .slice a4 l4 c4, .int .i64 s.due, .int .i64 s.reply], .slice al ll cl, .int .i64 (revsF s xs)] ∧
 SetIs (fun k => k ≠ σ.b) w a0 l0 a1 l1 a2 l2 a3 l3 a4 l4 s ∧ (l0 ≤ 30 ∧ l1 ≤ 30 ∧ l2 ≤ 30 ∧ l3 ≤ 30 ∧ l4 ≤ 30) ∧ ll ≤ hi ∧ ll ≤ cl ∧ Sl RRev 7 (fun k => k ≠ σ.b) w al ll xs
set_option maxRecDepth 100000 in
set_option maxHeartbeats 12800000 in
theorem scene_any (σ : St) (n0 : Nat) (w0 : World) (M : Nat) (hs0 : Str σ w0 n0) (hn : n0 ≤ 4611686018426900000) (hM : M ≤ 12) (hg : ∀ wx, But σ.b w0 wx → Glob wx) :
  Calls Tryz.prog 7 #[.pointer (some ⟨σ.b, 0, none⟩), .int .i64 M] w0 (StPost σ n0 61000 w0 (PScene σ M)) := by
 have hl0 := hs0.lt
 have HG := Lib.hid hg
 clear hg
 have hk1 : All w0 (w0.alloc (.cells #[.slice none 0 0, .slice none 0 0, .slice none 0 0, .slice none 0 0, .slice none 0 0, .int .i64 0, .int .i64 0] 31)) := Kept.alloc _ _ _
 have hr1 := heap_at w0 (.cells #[.slice none 0 0, .slice none 0 0, .slice none 0 0, .slice none 0 0, .slice none 0 0, .int .i64 0, .int .i64 0] 31) _ rfl
 have hs1 := hs0.keep hk1
 have hw1 : But σ.b w0 _ := hk1.all
 obtain ⟨rb, hrb⟩ : ∃ b, b = w0.heap.size := ⟨_, rfl⟩
 have HRB := Lib.hid hrb
 rw [← hrb] at hr1
 have hrs : σ.b < rb := by omega
 have hrb0 : w0.heap.size ≤ rb := by omega
 have hrb1 : rb < (w0.alloc (.cells #[.slice none 0 0, .slice none 0 0, .slice none 0 0, .slice none 0 0, .slice none 0 0, .int .i64 0, .int .i64 0] 31)).heap.size := by rw [hrb]; simp
 have hz01 : w0.heap.size ≤ (w0.alloc (.cells #[.slice none 0 0, .slice none 0 0, .slice none 0 0, .slice none 0 0, .slice none 0 0, .int .i64 0, .int .i64 0] 31)).heap.size := by simp
 clear hrb
 go_enter Tryz.func7, Tryz.ntmps7
 go_upto_region 1 with fail
 simp only [← HRB.out]
 generalize w0.alloc (.cells #[.slice none 0 0, .slice none 0 0, .slice none 0 0, .slice none 0 0, .slice none 0 0, .int .i64 0, .int .i64 0] 31) = w1 at *
 clear hk1 hs0
 have hl1 := hs1.lt
 go_wp2_with fail
 refine (setup10_any σ n0 _ hs1 (by omega) (fun wx k => HG.out wx (hw1.trans k))).mono ?_
 rintro e w2 ⟨v, n2, rfl, ⟨a0, a1, a2, a3, a4, c0, c1, c2, c3, c4, s, rfl, his, hb0, hb1, hb2, hb3, hb4⟩, hA2, hB2, hs2, hk2⟩
 have hw2 := hw1.trans hk2
 have hr2 := hk2.heap hr1 (by omega)
 have hz12 := hk2.size
 clear hr1 hs1 hw1 hk2
 have hl2 := hs2.lt
 obtain ⟨l0, hle0⟩ : ∃ l, l = s.sheet.length := ⟨_, rfl⟩
 obtain ⟨l1, hle1⟩ : ∃ l, l = s.papers.length := ⟨_, rfl⟩
 obtain ⟨l2, hle2⟩ : ∃ l, l = s.pairs.length := ⟨_, rfl⟩
 obtain ⟨l3, hle3⟩ : ∃ l, l = s.barred.length := ⟨_, rfl⟩
 obtain ⟨l4, hle4⟩ : ∃ l, l = s.chairs.length := ⟨_, rfl⟩
 rw [← hle0, ← hle1, ← hle2, ← hle3, ← hle4] at his
 rw [← hle0] at hb0
 rw [← hle1] at hb1
 rw [← hle2] at hb2
 rw [← hle3] at hb3
 rw [← hle4] at hb4
 simp only [setC, ← hle0, ← hle1, ← hle2, ← hle3, ← hle4]
 clear hle0 hle1 hle2 hle3 hle4
 have hk3 : All w2 (w2.alloc (.cells #[.slice a0 l0 c0, .slice a1 l1 c1, .slice a2 l2 c2, .slice a3 l3 c3, .slice a4 l4 c4, .int .i64 s.due, .int .i64 s.reply] 31)) := Kept.alloc _ _ _
 have hb3' := heap_at w2 (.cells #[.slice a0 l0 c0, .slice a1 l1 c1, .slice a2 l2 c2, .slice a3 l3 c3, .slice a4 l4 c4, .int .i64 s.due, .int .i64 s.reply] 31) _ rfl
 obtain ⟨bb, hbb⟩ : ∃ b, b = w2.heap.size := ⟨_, rfl⟩
 have HBB := Lib.hid hbb
 rw [← hbb] at hb3'
 have hrbb : rb < bb := by omega
 have his3 := his.keep hk3.all
 have hs3 := hs2.keep hk3
 have hw3 := hw2.trans hk3.all
 have hr3 := hk3.heap hr2 trivial
 clear hbb his hs2 hw2 hr2 hk3
 go_upto_region 2 with fail
 simp only [← HBB.out]
 generalize w2.alloc (.cells #[.slice a0 l0 c0, .slice a1 l1 c1, .slice a2 l2 c2, .slice a3 l3 c3, .slice a4 l4 c4, .int .i64 s.due, .int .i64 s.reply] 31) = w3 at *
 have hl3 := hs3.lt
 have e0 := cell_at (i := 0) hb3' rfl
 have e1 := cell_at (i := 1) hb3' rfl
 have e2 := cell_at (i := 2) hb3' rfl
 have e3 := cell_at (i := 3) hb3' rfl
 have e4 := cell_at (i := 4) hb3' rfl
 have e5 := cell_at (i := 5) hb3' rfl
 have e6 := cell_at (i := 6) hb3' rfl
 go_wp2_with fail
 refine (reviews_any σ n2 _ a0 l0 c0 a1 l1 c1 a2 l2 c2 a3 l3 c3 a4 l4 c4 s M hs3 (by omega) his3 (by omega) (by omega) hM (fun wx k => HG.out wx (hw3.trans k))).mono ?_
 rintro e w4 ⟨v, n4, rfl, ⟨xs, hxl, hac⟩, hA4, hB4, hs4, hk4⟩
 have hw4 := hw3.trans hk4
 have his4 := his3.keep hk4
 have hr4 := hk4.heap hr3 (by omega)
 have hb4' := hk4.heap hb3' (by omega)
 clear hs3 his3 hr3 hb3' hw3 e0 e1 e2 e3 e4 e5 e6
 obtain ⟨al, cl, rfl, hcl⟩ := hac.form
 have hsx : Sl RRev 7 (fun k => k ≠ σ.b) w4 al xs.length xs := by
  obtain ⟨al', cl', he, hsl⟩ := hac.sl RRev.ok (by decide) (G := fun k => k ≠ σ.b) (fun _ h => h) (fun j hj => by have := (hac.lt j hj).1; omega)
  injection he with h1 h2 h3
  subst h1
  exact hsl
 have hxty := hac.notType hr4 (by decide)
 obtain ⟨ll, hll⟩ : ∃ l, l = xs.length := ⟨_, rfl⟩
 rw [← hll] at hcl hsx hxl ⊢
 clear hll hac hk4
 have HF := Lib.hid (fun (wx : World) (k : All w4 wx) => reviewsFault_any a0 l0 c0 a1 l1 c1 a2 l2 c2 a3 l3 c3 a4 l4 c4 s al ll cl xs wx ((his4.mono (fun _ _ => trivial)).keep k) ((hsx.mono RRev.ok (fun _ _ => trivial)).keep RRev.ok k) (by omega) hcl (HG.out wx (hw4.trans k.all)))
 obtain ⟨ef, hef⟩ : ∃ z, z = revsF s xs := ⟨_, rfl⟩
 have HEF := Lib.hid hef
 rw [← hef] at HF
 clear hef
 have e0 := cell_at (i := 0) hb4' rfl
 have e1 := cell_at (i := 1) hb4' rfl
 have e2 := cell_at (i := 2) hb4' rfl
 have e3 := cell_at (i := 3) hb4' rfl
 have e4 := cell_at (i := 4) hb4' rfl
 have e5 := cell_at (i := 5) hb4' rfl
 have e6 := cell_at (i := 6) hb4' rfl
 have HB4 := Lib.hid (fun (wx : World) (k : All w4 wx) => k.heap hb4' trivial)
 have HR4 := Lib.hid (fun (wx : World) (k : All w4 wx) => k.heap hr4 trivial)
 have y0 := cell_at (i := 0) hr4 rfl
 have y1 := cell_at (i := 1) hr4 rfl
 have y2 := cell_at (i := 2) hr4 rfl
 have y3 := cell_at (i := 3) hr4 rfl
 have y4 := cell_at (i := 4) hr4 rfl
 have y5 := cell_at (i := 5) hr4 rfl
 have y6 := cell_at (i := 6) hr4 rfl
 have u0 := frozen_at (i := 0) hr4
 have u1 := frozen_at (i := 1) hr4
 have u2 := frozen_at (i := 2) hr4
 have u3 := frozen_at (i := 3) hr4
 have u4 := frozen_at (i := 4) hr4
 have u5 := frozen_at (i := 5) hr4
 have u6 := frozen_at (i := 6) hr4
 go_wp2_with fail
 go_region_law (first | (go_simp; go_at_call 44; refine (HF.out _ (by repeat (first | exact Kept.refl _ _ | refine Kept.then_drew ?_ | refine Kept.then_drewN ?_ _ | refine Kept.then_alloc ?_ _))).mono ?_; rintro e w5 ⟨rfl, hw5'⟩; have hw5 : All w4 w5 := Kept.trans ((by repeat (first | exact Kept.refl _ _ | refine Kept.then_drew ?_ | refine Kept.then_drewN ?_ _ | refine Kept.then_alloc ?_ _)) : All w4 _) hw5'; have hbX := HB4.out w5 hw5; have hrX := HR4.out w5 hw5; have f0 := cell_at (i := 0) hbX rfl; have z0 := cell_at (i := 0) hrX rfl; have x0 := frozen_at (i := 0) hrX; have f1 := cell_at (i := 1) hbX rfl; have z1 := cell_at (i := 1) hrX rfl; have x1 := frozen_at (i := 1) hrX; have f2 := cell_at (i := 2) hbX rfl; have z2 := cell_at (i := 2) hrX rfl; have x2 := frozen_at (i := 2) hrX; have f3 := cell_at (i := 3) hbX rfl; have z3 := cell_at (i := 3) hrX rfl; have x3 := frozen_at (i := 3) hrX; have f4 := cell_at (i := 4) hbX rfl; have z4 := cell_at (i := 4) hrX rfl; have x4 := frozen_at (i := 4) hrX; have f5 := cell_at (i := 5) hbX rfl; have z5 := cell_at (i := 5) hrX rfl; have x5 := frozen_at (i := 5) hrX; have f6 := cell_at (i := 6) hbX rfl; have z6 := cell_at (i := 6) hrX rfl; have x6 := frozen_at (i := 6) hrX))
 all_goals
  have hke : Kept (fun k => k ≠ rb) w5 (((((((w5.setCell ⟨rb, 0, none⟩ (.slice a0 l0 c0)).setCell ⟨rb, 1, none⟩ (.slice a1 l1 c1)).setCell ⟨rb, 2, none⟩ (.slice a2 l2 c2)).setCell ⟨rb, 3, none⟩ (.slice a3 l3 c3)).setCell ⟨rb, 4, none⟩ (.slice a4 l4 c4)).setCell ⟨rb, 5, none⟩ (.int .i64 s.due)).setCell ⟨rb, 6, none⟩ (.int .i64 s.reply)) := (((((((Kept.refl _ _).then_setCell _ _ (fun h => h rfl)).then_setCell _ _ (fun h => h rfl)).then_setCell _ _ (fun h => h rfl)).then_setCell _ _ (fun h => h rfl)).then_setCell _ _ (fun h => h rfl)).then_setCell _ _ (fun h => h rfl)).then_setCell _ _ (fun h => h rfl)
  have hrn : NoStr w5 rb := NoStr.of hrX (by intro v hv z; simp at hv; rcases hv with rfl | rfl | rfl <;> exact fun h => by cases h)
  have hfi := Lib.hid ((his4.keep hw5.all).past hrn hke)
  have hfx := Lib.hid ((hsx.keep RRev.ok hw5.all).past RRev.isOff RRev.ok hrn hke)
  have hfs := Lib.hid ((((((((hs4.keep hw5).set ⟨rb, 0, none⟩ (.slice a0 l0 c0) (by dsimp only; omega)).set ⟨rb, 1, none⟩ (.slice a1 l1 c1) (by dsimp only; omega)).set ⟨rb, 2, none⟩ (.slice a2 l2 c2) (by dsimp only; omega)).set ⟨rb, 3, none⟩ (.slice a3 l3 c3) (by dsimp only; omega)).set ⟨rb, 4, none⟩ (.slice a4 l4 c4) (by dsimp only; omega)).set ⟨rb, 5, none⟩ (.int .i64 s.due) (by dsimp only; omega)).set ⟨rb, 6, none⟩ (.int .i64 s.reply) (by dsimp only; omega))
  have hfw := Lib.hid ((((((((hw4.trans hw5.all).then_setNew ⟨rb, 0, none⟩ (.slice a0 l0 c0) (by dsimp only; omega)).then_setNew ⟨rb, 1, none⟩ (.slice a1 l1 c1) (by dsimp only; omega)).then_setNew ⟨rb, 2, none⟩ (.slice a2 l2 c2) (by dsimp only; omega)).then_setNew ⟨rb, 3, none⟩ (.slice a3 l3 c3) (by dsimp only; omega)).then_setNew ⟨rb, 4, none⟩ (.slice a4 l4 c4) (by dsimp only; omega)).then_setNew ⟨rb, 5, none⟩ (.int .i64 s.due) (by dsimp only; omega)).then_setNew ⟨rb, 6, none⟩ (.int .i64 s.reply) (by dsimp only; omega))
  have j0 := heap_setCell_at w5 rb 0 (.slice a0 l0 c0) _ _ _ hrX
  have j1 := heap_setCell_at (w5.setCell ⟨rb, 0, none⟩ (.slice a0 l0 c0)) rb 1 (.slice a1 l1 c1) _ _ _ j0
  have j2 := heap_setCell_at ((w5.setCell ⟨rb, 0, none⟩ (.slice a0 l0 c0)).setCell ⟨rb, 1, none⟩ (.slice a1 l1 c1)) rb 2 (.slice a2 l2 c2) _ _ _ j1
  have j3 := heap_setCell_at (((w5.setCell ⟨rb, 0, none⟩ (.slice a0 l0 c0)).setCell ⟨rb, 1, none⟩ (.slice a1 l1 c1)).setCell ⟨rb, 2, none⟩ (.slice a2 l2 c2)) rb 3 (.slice a3 l3 c3) _ _ _ j2
  have j4 := heap_setCell_at ((((w5.setCell ⟨rb, 0, none⟩ (.slice a0 l0 c0)).setCell ⟨rb, 1, none⟩ (.slice a1 l1 c1)).setCell ⟨rb, 2, none⟩ (.slice a2 l2 c2)).setCell ⟨rb, 3, none⟩ (.slice a3 l3 c3)) rb 4 (.slice a4 l4 c4) _ _ _ j3
  have j5 := heap_setCell_at (((((w5.setCell ⟨rb, 0, none⟩ (.slice a0 l0 c0)).setCell ⟨rb, 1, none⟩ (.slice a1 l1 c1)).setCell ⟨rb, 2, none⟩ (.slice a2 l2 c2)).setCell ⟨rb, 3, none⟩ (.slice a3 l3 c3)).setCell ⟨rb, 4, none⟩ (.slice a4 l4 c4)) rb 5 (.int .i64 s.due) _ _ _ j4
  have j6 := heap_setCell_at ((((((w5.setCell ⟨rb, 0, none⟩ (.slice a0 l0 c0)).setCell ⟨rb, 1, none⟩ (.slice a1 l1 c1)).setCell ⟨rb, 2, none⟩ (.slice a2 l2 c2)).setCell ⟨rb, 3, none⟩ (.slice a3 l3 c3)).setCell ⟨rb, 4, none⟩ (.slice a4 l4 c4)).setCell ⟨rb, 5, none⟩ (.int .i64 s.due)) rb 6 (.int .i64 s.reply) _ _ _ j5
  have hfin : (((((((w5.setCell ⟨rb, 0, none⟩ (.slice a0 l0 c0)).setCell ⟨rb, 1, none⟩ (.slice a1 l1 c1)).setCell ⟨rb, 2, none⟩ (.slice a2 l2 c2)).setCell ⟨rb, 3, none⟩ (.slice a3 l3 c3)).setCell ⟨rb, 4, none⟩ (.slice a4 l4 c4)).setCell ⟨rb, 5, none⟩ (.int .i64 s.due)).setCell ⟨rb, 6, none⟩ (.int .i64 s.reply)).heap[rb]? = some (.cells #[.slice a0 l0 c0, .slice a1 l1 c1, .slice a2 l2 c2, .slice a3 l3 c3, .slice a4 l4 c4, .int .i64 s.due, .int .i64 s.reply] 31 (0, 0)) := by simpa using j6
  have q0 := cell_at (i := 0) hfin rfl
  have q1 := cell_at (i := 1) hfin rfl
  have q2 := cell_at (i := 2) hfin rfl
  have q3 := cell_at (i := 3) hfin rfl
  have q4 := cell_at (i := 4) hfin rfl
  have q5 := cell_at (i := 5) hfin rfl
  have q6 := cell_at (i := 6) hfin rfl
  clear hke hfin hrn hbX hrX j0 j1 j2 j3 j4 j5 j6
  go_wp2_with fail
  refine bodyPost_ret (v := .tuple #[.agg #[.slice a0 l0 c0, .slice a1 l1 c1, .slice a2 l2 c2, .slice a3 l3 c3, .slice a4 l4 c4, .int .i64 s.due, .int .i64 s.reply], .slice al ll cl, .int .i64 ef]) ?_ rfl ⟨_, n4, rfl, ⟨a0, a1, a2, a3, a4, l0, c0, l1, c1, l2, c2, l3, c3, l4, c4, s, al, ll, cl, xs, by rw [HEF.out], hfi.out, ⟨hb0, hb1, hb2, hb3, hb4⟩, hxl, hcl, hfx.out⟩, by omega, by omega, hfs.out, hfw.out⟩
  simp [results, Tryz.results7, go_sem, q0, q1, q2, q3, q4, q5, q6]
end Go.Proofs.YthhmgblcccbdaaaGreatDoor

/- The law ReviewMarks, walked. -/
namespace Go.Proofs.YthhmgblcccbdaaaGreatDoor
open Go.RowKit

theorem Glob.ltS {w : World} (h : Glob w) : 1 < w.heap.size ∧ 2 < w.heap.size ∧ 0 < w.heap.size := by
 obtain ⟨m, hm⟩ := h.most
 exact ⟨lt_of_cell (h.tabs.1 0 (by decide)), lt_of_cell (h.tabs.2 0 (by decide)).1, lt_of_cell hm⟩
theorem StrV.gen {er : Int} {xs : List ByteArray} {e : Ending} {w' : World} (h : StrV er xs e w') : ∃ v, e = .returned (.tuple #[v, .int .i64 er]) ∧ (er = 0 → ∃ (p : Option Addr) (c : Nat), v = .slice p xs.length c ∧ Sl RStr 1 (fun _ => True) w' p xs.length xs) ∧ (er ≠ 0 → v = .slice none 0 0) := by
 by_cases h0 : er = 0
 ·obtain ⟨p, c, he, hs⟩ := h.1 h0
  exact ⟨_, by rw [he, h0], fun _ => ⟨p, c, rfl, hs⟩, fun h => absurd h0 h⟩
 ·exact ⟨_, h.2 h0, fun h => absurd h h0, fun _ => rfl⟩
theorem MarkV.gen {er : Int} {xs : List Mark3} {e : Ending} {w' : World} (h : MarkV er xs e w') : ∃ v, e = .returned (.tuple #[v, .int .i64 er]) ∧ (er = 0 → ∃ (p : Option Addr) (c : Nat), v = .slice p xs.length c ∧ Sl RMark 3 (fun _ => True) w' p xs.length xs) ∧ (er ≠ 0 → v = .slice none 0 0) := by
 by_cases h0 : er = 0
 ·obtain ⟨p, c, he, hs⟩ := h.1 h0
  exact ⟨_, by rw [he, h0], fun _ => ⟨p, c, rfl, hs⟩, fun h => absurd h0 h⟩
 ·exact ⟨_, h.2 h0, fun h => absurd h h0, fun _ => rfl⟩
theorem IntV.gen {er : Int} {xs : List Int} {e : Ending} {w' : World} (h : IntV er xs e w') : ∃ v, e = .returned (.tuple #[v, .int .i64 er]) ∧ (er = 0 → ∃ (p : Option Addr) (c : Nat), v = .slice p xs.length c ∧ Sl RInt 1 (fun _ => True) w' p xs.length xs) ∧ (er ≠ 0 → v = .slice none 0 0) := by
 by_cases h0 : er = 0
 ·obtain ⟨p, c, he, hs⟩ := h.1 h0
  exact ⟨_, by rw [he, h0], fun _ => ⟨p, c, rfl, hs⟩, fun h => absurd h0 h⟩
 ·exact ⟨_, h.2 h0, fun h => absurd h h0, fun _ => rfl⟩
def momF (tm : Int) : Int := if 0 ≤ tm ∧ tm < 5761440 then 0 else 1
theorem first3 (a b c : Int) : firstV [a, b, c] = if a ≠ 0 then a else if b ≠ 0 then b else c := by simp only [firstV]; split <;> (try split) <;> (try split) <;> first | rfl | omega
theorem first2 (a b : Int) : firstV [a, b] = if a ≠ 0 then a else b := by simp only [firstV]; split <;> (try split) <;> first | rfl | omega
theorem fullE_first (s : Set7) (xs : List Rev) (mn tm : Int) : fullE s xs mn tm = firstV [revsF s xs, if mn < 0 ∨ 10 < mn then 1 else 0, momF tm] := by
 rw [first3, fullE, momF]
 by_cases h1 : revsF s xs ≠ 0
 ·simp only [if_pos h1]
 ·by_cases h2 : mn < 0 ∨ 10 < mn
  ·simp only [if_neg h1, if_pos h2]; simp
  ·simp only [if_neg h1, if_neg h2]; simp
theorem askedE_of {s : Set7} {xs : List Rev} {key : ByteArray} {m : Int} (h : revsF s xs = 0) : askedE s xs key m = askE s.sheet key m := by rw [askedE, if_neg (by simp [h])]
theorem markE_first (s : Set7) (xs : List Rev) (key : ByteArray) (tm : Int) (h : revsF s xs = 0) : markE s xs key tm = firstV [askE s.sheet key 10, momF tm] := by
 rw [first2, markE, momF, askedE_of h]
theorem markE_bad (s : Set7) (xs : List Rev) (key : ByteArray) (tm : Int) (h : revsF s xs ≠ 0) : markE s xs key tm = revsF s xs := by
 rw [markE, askedE, if_pos h, if_pos h]
theorem optE_bad (s : Set7) (xs : List Rev) (key p : ByteArray) (tm : Int) (h : revsF s xs ≠ 0) : optE s xs key p tm = revsF s xs := by
 rw [optE, askedE, if_pos h, if_pos h]
theorem papOf_findG {ps : List Pap} {p : ByteArray} : (papOf ps p).isSome = false ↔ findG (isPap p) 0 ps < 0 := by
 rw [papOf]
 rcases findG_find (p := isPap p) (xs := ps) (k := 0) with ⟨h1, h2⟩ | ⟨i, q, h1, h2, h3⟩
 ·rw [h1, h2]; simp
 ·rw [h1, h2]; (simp <;> omega)
theorem optE_first (s : Set7) (xs : List Rev) (key p : ByteArray) (tm : Int) (h : revsF s xs = 0) : optE s xs key p tm = firstV [askE s.sheet key 0, if decide (findG (isPap p) 0 s.papers < 0) = true then 8 else 0, momF tm] := by
 rw [first3, optE, momF, askedE_of h]
 by_cases h1 : askE s.sheet key 0 ≠ 0
 ·rw [if_pos h1, if_pos h1]
 ·rw [if_neg h1, if_neg h1]
  by_cases h2 : (papOf s.papers p).isSome = false
  ·have h3 := papOf_findG.1 h2
   simp [h2, h3]
  ·have h3 : ¬ findG (isPap p) 0 s.papers < 0 := fun e => h2 (papOf_findG.2 e)
   simp only [if_neg h2, h3, decide_false, Bool.false_eq_true, if_false, ne_eq, not_true]
theorem sheet_opts {F : Nat → Prop} {w : World} {a : Option Addr} {len : Nat} {xs : List Qst} (h : Sl RQst 6 F w a len xs) {q : Qst} (hq : q ∈ xs) : q.opts.length ≤ 1000 := by
 obtain ⟨i, hi, rfl⟩ := List.mem_iff_getElem.1 hq
 obtain ⟨b, off, x, oa, oc, -, -, -, -, -, -, -, -, -, hxs, -, hx, -⟩ := h.atQst (k := i) (by have := h.len; omega)
 rw [List.getElem?_eq_getElem hi] at hx
 rw [Option.some.inj hx]
 exact hxs.2
def Errs23 (w : World) (e2 e3 : Int) (x y : Value) (wx : World) : Prop := x = .int .i64 e2 ∧ y = .int .i64 e3 ∧ All w wx
set_option maxRecDepth 100000 in
set_option maxHeartbeats 12800000 in
theorem reviewMarks_walk (a : Option Addr) (len cap : Nat) (w : World) (h : IsRow w a len cap) (hG : Glob w) (hP : Pow w) :
  Calls Tryz.prog 6 #[.slice a len cap] w fun e w' => e = .returned (.bool true) ∧ Below w.heap.size w w' := by
 have hst := h.start
 obtain ⟨σ, hσ⟩ : ∃ σ : St, σ = ⟨w.heap.size, a, len, cap⟩ := ⟨_, rfl⟩
 have hσb : σ.b = w.heap.size := by rw [hσ]
 rw [← hσ] at hst
 have hptr : (Value.pointer (some ⟨w.heap.size, 0, none⟩)) = Value.pointer (some ⟨σ.b, 0, none⟩) := by rw [hσb]
 have Hptr := Lib.hid hptr
 have Hσ := Lib.hid hσb
 have hk0 : But σ.b w (w.alloc (.cells #[.slice a len cap, .int .i64 0] 25)) := Kept.alloc _ _ _
 have hgl := hG.ltS
 have hpl := hP.lt
 have HG := Lib.hid (fun (wx : World) (k : But σ.b w wx) => (⟨hG.kept k (by omega) (by omega) (by omega), hP.kept k (by omega)⟩ : GlobP wx))
 clear hσ hσb hptr h hG hgl hP hpl
 go_enter Tryz.func6, Tryz.ntmps6
 go_upto_region 2 with fail
 simp only [Hptr.out]
 generalize w.alloc (.cells #[.slice a len cap, .int .i64 0] 25) = w0 at *
 have hl0 := hst.lt
 go_wp2_with fail
 refine (range_any σ 0 0 8 _ hst (by omega) (by omega) (by omega) (by omega)).mono ?_
 rintro e w1 ⟨v, n1, rfl, ⟨r, rfl, hr1, hr2⟩, -, hn1, hs1, hb1⟩
 obtain ⟨M, rfl⟩ := Int.eq_ofNat_of_zero_le hr1
 have hM : M ≤ 8 := by omega
 have hw1 := hk0.trans hb1
 clear hr1 hr2 hst hb1 hk0
 go_wp2_with fail
 refine (scene_any σ n1 _ M hs1 (by omega) (by omega) (fun wx k => (HG.out wx (hw1.trans k)).g)).mono ?_
 rintro e w2 ⟨v, n2, rfl, ⟨a0, a1, a2, a3, a4, l0, c0, l1, c1, l2, c2, l3, c3, l4, c4, s, al, ll, cl, xs, rfl, his, ⟨hb0, hb1, hb2, hb3, hb4⟩, hll, hcl, hsx⟩, -, hn2, hs2, hk2⟩
 have hw2 := hw1.trans hk2
 have hl2' := hs2.lt
 clear hs1 hw1 hk2
 have hk3 : All w2 (w2.alloc (.cells #[.slice a0 l0 c0, .slice a1 l1 c1, .slice a2 l2 c2, .slice a3 l3 c3, .slice a4 l4 c4, .int .i64 s.due, .int .i64 s.reply] 31)) := Kept.alloc _ _ _
 have hx3 := heap_at w2 (.cells #[.slice a0 l0 c0, .slice a1 l1 c1, .slice a2 l2 c2, .slice a3 l3 c3, .slice a4 l4 c4, .int .i64 s.due, .int .i64 s.reply] 31) _ rfl
 obtain ⟨xb, hxb⟩ : ∃ b, b = w2.heap.size := ⟨_, rfl⟩
 have HXB := Lib.hid hxb
 rw [← hxb] at hx3
 have hxs : σ.b < xb := by omega
 have his3 := his.keep hk3.all
 have hsx3 := hsx.keep RRev.ok hk3.all
 have hs3 := hs2.keep hk3
 have hw3 := hw2.trans hk3.all
 clear hxb his hsx hs2 hw2 hk3
 obtain ⟨ef, hef⟩ : ∃ z, z = revsF s xs := ⟨_, rfl⟩
 have HEF := Lib.hid hef
 rw [← hef]
 clear hef
 go_upto_region 3 with fail
 simp only [← HXB.out]
 generalize w2.alloc (.cells #[.slice a0 l0 c0, .slice a1 l1 c1, .slice a2 l2 c2, .slice a3 l3 c3, .slice a4 l4 c4, .int .i64 s.due, .int .i64 s.reply] 31) = w3 at *
 have hl3 := hs3.lt
 go_wp2_with fail
 refine (moment10_any σ n2 _ hs3 (by omega)).mono ?_
 rintro e w4 ⟨v, n4, rfl, ⟨tm, rfl, -, -⟩, -, hn4, hs4, hk4⟩
 have hl4 := hs4.lt
 go_wp2_with fail
 refine (pick_any σ n4 _ 8 8 [0, 1, 1, 2, 3, 10, -1, 11] _ (hs4.keep (Kept.alloc _ _ _)) (by omega) (Sl.lit_ints _ (heap_at w4 _ _ rfl) rfl (by omega)) (by omega) (by omega)).mono ?_
 rintro e w5 ⟨v, n5, rfl, ⟨mn, rfl, -⟩, -, hn5, hs5, hk5'⟩
 have hl5 := hs5.lt
 have hk35 : But σ.b w3 w5 := hk4.trans ((Kept.all (Kept.alloc _ _ _)).trans hk5')
 have hw5 := hw3.trans hk35
 have his5 := his3.keep hk35
 have hsx5 := hsx3.keep RRev.ok hk35
 have hx5 := hk35.heap hx3 (by omega)
 have HX := Lib.hid (fun (wx : World) (k : But σ.b w5 wx) => k.heap hx5 (by omega))
 have HIS := Lib.hid (fun (wx : World) (k : But σ.b w5 wx) => his5.keep k)
 have HSX := Lib.hid (fun (wx : World) (k : But σ.b w5 wx) => hsx5.keep RRev.ok k)
 have HW5 := Lib.hid hw5
 have HST := Lib.hid hs5
 clear hx3 his3 hsx3 hs3 hs4 hw3 hk4 hk5' hk35 hx5 his5 hsx5 hw5 hs5
 go_wp2_with fail
 refine wp_region_inv 13 (by kernel_rfl) (by kernel_rfl) (by kernel_rfl) (GStr 1 σ n5 w5)
  (DL [PStrs σ [⟨#[115, 99, 111, 114, 101]⟩, ⟨#[114, 97, 110, 107]⟩, ⟨#[100, 101, 112, 116, 104]⟩, ⟨#[110, 111, 116, 101]⟩, ⟨#[110, 111, 110, 101]⟩], PIs (.pointer (some ⟨σ.b, 0, none⟩)), PRow σ [0, 0, 1, 1, 2, 3, 4], PNum (fun r => 0 ≤ r ∧ r < 5), PStrAt σ [⟨#[115, 99, 111, 114, 101]⟩, ⟨#[114, 97, 110, 107]⟩, ⟨#[100, 101, 112, 116, 104]⟩, ⟨#[110, 111, 116, 101]⟩, ⟨#[110, 111, 110, 101]⟩], PStr (fun r => r.size ≤ 1000000), PStrs σ [⟨#[112, 97]⟩, ⟨#[112, 98]⟩, ⟨#[122, 122]⟩], PIs (.pointer (some ⟨σ.b, 0, none⟩)), PRow σ [0, 0, 1, 2], PNum (fun r => 0 ≤ r ∧ r < 3), PStrAt σ [⟨#[112, 97]⟩, ⟨#[112, 98]⟩, ⟨#[122, 122]⟩], PStr (fun r => r.size ≤ 1000000), PStr (fun r => r.size ≤ 1000000)]) (fun w w' => But σ.b w w')
  (DL.keep (by simp only [List.forall_mem_cons, List.not_mem_nil, false_implies, implies_true, and_true]; exact ⟨PStrs.stays _ _, PIs.stays _ _, PRow.stays _ _, PNum.stays _ _, PStrAt.stays _ _, PStr.stays _ _, PStrs.stays _ _, PIs.stays _ _, PRow.stays _ _, PNum.stays _ _, PStrAt.stays _ _, PStr.stays _ _, PStr.stays _ _⟩)) ?_ ?_ ?_
 ·exact ⟨n5, Nat.le_refl _, by omega, HST.out.keep (Kept.drew _ _), Kept.drew _ _⟩
 ·intro i o t ho hd hi k' a' wx hk hg hdf hts hoth hdeps
  obtain ⟨m, hm1, hm2, hst, hbut⟩ := hg
  have hlt9 := hst.lt
  have hszx := hbut.size
  have hz : i = 0 ∨ i = 1 ∨ i = 2 ∨ i = 3 ∨ i = 4 ∨ i = 5 ∨ i = 6 ∨ i = 7 ∨ i = 8 ∨ i = 9 ∨ i = 10 ∨ i = 11 ∨ i = 12 := by omega
  rcases hz with rfl | rfl | rfl | rfl | rfl | rfl | rfl | rfl | rfl | rfl | rfl | rfl | rfl
  ·obtain rfl := Option.some.inj ho
   obtain rfl := Option.some.inj hd
   clear hoth hdeps hdf hts ho
   refine wp_via (fun K' hK => ?_)
   have HK := Lib.hid hK
   clear hK
   go_simp
   exact HK.out _ _ ⟨_, rfl, GStr.alloc _ hm1 hm2 hst hbut, Kept.alloc _ _ _, ⟨wx.heap.size, rfl, Nat.ne_of_gt hlt9, heap_at _ _ _ rfl⟩⟩
  ·obtain rfl := Option.some.inj ho
   obtain rfl := Option.some.inj hd
   have e0 : a'.tmps.getD 3 undef = (.pointer (some ⟨σ.b, 0, none⟩)) := tmp_of ((hoth 3 (by decide)).trans rfl)
   clear hoth hdeps hdf hts ho
   refine wp_via (fun K' hK => ?_)
   have HK := Lib.hid hK
   clear hK
   go_simp
   exact HK.out _ _ ⟨_, rfl, GStr.same hm1 hm2 hst hbut, Kept.refl _ _, rfl⟩
  ·obtain rfl := Option.some.inj ho
   obtain rfl := Option.some.inj hd
   clear hoth hdeps hdf hts ho
   refine wp_via (fun K' hK => ?_)
   have HK := Lib.hid hK
   clear hK
   go_simp
   exact HK.out _ _ ⟨_, rfl, GStr.alloc _ hm1 hm2 hst hbut, Kept.alloc _ _ _, ⟨wx.heap.size, rfl, Nat.ne_of_gt hlt9, heap_at _ _ _ rfl⟩⟩
  ·obtain rfl := Option.some.inj ho
   obtain rfl := Option.some.inj hd
   have ep : a'.tmps.getD 37 undef = (.pointer (some ⟨σ.b, 0, none⟩)) := hdeps 1 (by decide) 37 rfl
   obtain ⟨br, er, hrn, hr⟩ : PRow σ [0, 0, 1, 1, 2, 3, 4] (a'.tmps.getD 38 undef) wx := hdeps 2 (by decide) 38 rfl
   replace er : a'.tmps.getD 38 undef = .slice (some ⟨br, 0, none⟩) 7 7 := er
   clear hoth hdeps hdf hts ho
   refine wp_via (fun K' hK => ?_)
   have HK := Lib.hid hK
   clear hK
   go_simp
   refine (pick_any σ m _ _ _ [0, 0, 1, 1, 2, 3, 4] _ hst (by omega) (Sl.lit_ints _ hr rfl hrn) (by simp) (by simp)).mono ?_
   rintro e w2x ⟨v, m2, rfl, ⟨r, rfl, hr2⟩, hm3, hm4, hst2, hb2x⟩
   exact HK.out _ _ ⟨_, rfl, GStr.call hm1 hm2 hbut hm3 (by omega) hst2 hb2x, hb2x, ⟨r, rfl, by simp at hr2; omega⟩⟩
  ·obtain rfl := Option.some.inj ho
   obtain rfl := Option.some.inj hd
   obtain ⟨b, e1, hb1, hb2⟩ : PStrs σ [⟨#[115, 99, 111, 114, 101]⟩, ⟨#[114, 97, 110, 107]⟩, ⟨#[100, 101, 112, 116, 104]⟩, ⟨#[110, 111, 116, 101]⟩, ⟨#[110, 111, 110, 101]⟩] (a'.tmps.getD 36 undef) wx := hdeps 0 (by decide) 36 rfl
   replace e1 : a'.tmps.getD 36 undef = .slice (some ⟨b, 0, none⟩) 5 5 := e1
   obtain ⟨r, e2, hr1, hr2⟩ : PNum (fun r => 0 ≤ r ∧ r < 5) (a'.tmps.getD 39 undef) wx := hdeps 3 (by decide) 39 rfl
   obtain ⟨j, rfl⟩ := Int.eq_ofNat_of_zero_le hr1
   have hj : j < 5 := by omega
   clear hoth hdeps hdf hts ho
   refine wp_via (fun K' hK => ?_)
   have HK := Lib.hid hK
   clear hK
   go_simp
   exact HK.out _ _ ⟨_, rfl, GStr.same hm1 hm2 hst hbut, Kept.refl _ _, ⟨b, j, rfl, hj, hb1, hb2⟩⟩
  ·obtain rfl := Option.some.inj ho
   obtain rfl := Option.some.inj hd
   obtain ⟨b, j, e1, hj, hb1, hb2⟩ : PStrAt σ [⟨#[115, 99, 111, 114, 101]⟩, ⟨#[114, 97, 110, 107]⟩, ⟨#[100, 101, 112, 116, 104]⟩, ⟨#[110, 111, 116, 101]⟩, ⟨#[110, 111, 110, 101]⟩] (a'.tmps.getD 40 undef) wx := hdeps 4 (by decide) 40 rfl
   obtain ⟨r, hr, hrz⟩ := strAt_cell hb2 hj (by decide)
   clear hoth hdeps hdf hts ho
   refine wp_via (fun K' hK => ?_)
   have HK := Lib.hid hK
   clear hK
   go_simp
   exact HK.out _ _ ⟨_, rfl, GStr.same hm1 hm2 hst hbut, Kept.refl _ _, ⟨r, rfl, hrz⟩⟩
  ·obtain rfl := Option.some.inj ho
   obtain rfl := Option.some.inj hd
   clear hoth hdeps hdf hts ho
   refine wp_via (fun K' hK => ?_)
   have HK := Lib.hid hK
   clear hK
   go_simp
   exact HK.out _ _ ⟨_, rfl, GStr.alloc _ hm1 hm2 hst hbut, Kept.alloc _ _ _, ⟨wx.heap.size, rfl, Nat.ne_of_gt hlt9, heap_at _ _ _ rfl⟩⟩
  ·obtain rfl := Option.some.inj ho
   obtain rfl := Option.some.inj hd
   have e0 : a'.tmps.getD 3 undef = (.pointer (some ⟨σ.b, 0, none⟩)) := tmp_of ((hoth 3 (by decide)).trans rfl)
   clear hoth hdeps hdf hts ho
   refine wp_via (fun K' hK => ?_)
   have HK := Lib.hid hK
   clear hK
   go_simp
   exact HK.out _ _ ⟨_, rfl, GStr.same hm1 hm2 hst hbut, Kept.refl _ _, rfl⟩
  ·obtain rfl := Option.some.inj ho
   obtain rfl := Option.some.inj hd
   clear hoth hdeps hdf hts ho
   refine wp_via (fun K' hK => ?_)
   have HK := Lib.hid hK
   clear hK
   go_simp
   exact HK.out _ _ ⟨_, rfl, GStr.alloc _ hm1 hm2 hst hbut, Kept.alloc _ _ _, ⟨wx.heap.size, rfl, Nat.ne_of_gt hlt9, heap_at _ _ _ rfl⟩⟩
  ·obtain rfl := Option.some.inj ho
   obtain rfl := Option.some.inj hd
   have ep : a'.tmps.getD 43 undef = (.pointer (some ⟨σ.b, 0, none⟩)) := hdeps 7 (by decide) 43 rfl
   obtain ⟨br, er, hrn, hr⟩ : PRow σ [0, 0, 1, 2] (a'.tmps.getD 44 undef) wx := hdeps 8 (by decide) 44 rfl
   replace er : a'.tmps.getD 44 undef = .slice (some ⟨br, 0, none⟩) 4 4 := er
   clear hoth hdeps hdf hts ho
   refine wp_via (fun K' hK => ?_)
   have HK := Lib.hid hK
   clear hK
   go_simp
   refine (pick_any σ m _ _ _ [0, 0, 1, 2] _ hst (by omega) (Sl.lit_ints _ hr rfl hrn) (by simp) (by simp)).mono ?_
   rintro e w2x ⟨v, m2, rfl, ⟨r, rfl, hr2⟩, hm3, hm4, hst2, hb2x⟩
   exact HK.out _ _ ⟨_, rfl, GStr.call hm1 hm2 hbut hm3 (by omega) hst2 hb2x, hb2x, ⟨r, rfl, by simp at hr2; omega⟩⟩
  ·obtain rfl := Option.some.inj ho
   obtain rfl := Option.some.inj hd
   obtain ⟨b, e1, hb1, hb2⟩ : PStrs σ [⟨#[112, 97]⟩, ⟨#[112, 98]⟩, ⟨#[122, 122]⟩] (a'.tmps.getD 42 undef) wx := hdeps 6 (by decide) 42 rfl
   replace e1 : a'.tmps.getD 42 undef = .slice (some ⟨b, 0, none⟩) 3 3 := e1
   obtain ⟨r, e2, hr1, hr2⟩ : PNum (fun r => 0 ≤ r ∧ r < 3) (a'.tmps.getD 45 undef) wx := hdeps 9 (by decide) 45 rfl
   obtain ⟨j, rfl⟩ := Int.eq_ofNat_of_zero_le hr1
   have hj : j < 3 := by omega
   clear hoth hdeps hdf hts ho
   refine wp_via (fun K' hK => ?_)
   have HK := Lib.hid hK
   clear hK
   go_simp
   exact HK.out _ _ ⟨_, rfl, GStr.same hm1 hm2 hst hbut, Kept.refl _ _, ⟨b, j, rfl, hj, hb1, hb2⟩⟩
  ·obtain rfl := Option.some.inj ho
   obtain rfl := Option.some.inj hd
   obtain ⟨b, j, e1, hj, hb1, hb2⟩ : PStrAt σ [⟨#[112, 97]⟩, ⟨#[112, 98]⟩, ⟨#[122, 122]⟩] (a'.tmps.getD 46 undef) wx := hdeps 10 (by decide) 46 rfl
   obtain ⟨r, hr, hrz⟩ := strAt_cell hb2 hj (by decide)
   clear hoth hdeps hdf hts ho
   refine wp_via (fun K' hK => ?_)
   have HK := Lib.hid hK
   clear hK
   go_simp
   exact HK.out _ _ ⟨_, rfl, GStr.same hm1 hm2 hst hbut, Kept.refl _ _, ⟨r, rfl, hrz⟩⟩
  ·obtain rfl := Option.some.inj ho
   obtain rfl := Option.some.inj hd
   obtain ⟨r, e41, hrz⟩ : PStr (fun r => r.size ≤ 1000000) (a'.tmps.getD 41 undef) wx := hdeps 5 (by decide) 41 rfl
   clear hoth hdeps hdf hts ho
   refine wp_via (fun K' hK => ?_)
   have HK := Lib.hid hK
   clear hK
   go_simp
   exact HK.out _ _ ⟨_, rfl, GStr.same hm1 hm2 hst hbut, Kept.refl _ _, ⟨r, rfl, hrz⟩⟩
 ·intro wx f hg hd
  obtain ⟨m4, hm1, hm2, hst, hbut⟩ := hg
  obtain ⟨key, e9, hkz⟩ : PStr (fun r => r.size ≤ 1000000) (f 9) wx := hd 12 9 (by decide) rfl
  obtain ⟨p, e47, hpz⟩ : PStr (fun r => r.size ≤ 1000000) (f 47) wx := hd 11 47 (by decide) rfl
  rw [show dsts _ 13 = [36, 37, 38, 39, 40, 41, 42, 43, 44, 45, 46, 47, 9] from by kernel_rfl]
  simp only [List.map_cons, List.map_nil, puts, Act.put, e9, e47, List.drop_succ_cons, List.drop_zero]
  generalize f 36 = f36
  generalize f 37 = f37
  generalize f 38 = f38
  generalize f 39 = f39
  generalize f 40 = f40
  generalize f 41 = f41
  generalize f 42 = f42
  generalize f 43 = f43
  generalize f 44 = f44
  generalize f 45 = f45
  generalize f 46 = f46
  clear hd e9 e47
  simp only [List.setIfInBounds_toArray, List.set_cons_zero, List.set_cons_succ]
  have hx6 := HX.out _ hbut
  have his6 := (HIS.out _ hbut).mono (fun _ _ => trivial)
  have hsx6 := (HSX.out _ hbut).mono RRev.ok (fun _ _ => trivial)
  have hw6 := HW5.out.trans hbut
  have HG6 := Lib.hid (fun (wy : World) (k : All wx wy) => HG.out wy (hw6.trans k.all))
  have hend := Lib.hid (show ∀ wy, All wx wy → Below w.heap.size w wy from fun wy k => (hw6.trans k.all).below (Nat.le_refl _) (fun k hk => by have := Hσ.out; omega))
  obtain ⟨ts, hts, hst6, hans6⟩ := hsx6.raws
  have hsm : ∀ z ∈ ts, RevSmall z.1 := fun z hz => by
   obtain ⟨i, hi, rfl⟩ := List.mem_iff_getElem.1 hz
   obtain ⟨b, off, y, -, -, -, -, -, -, -, -, -, hs, hy, -⟩ := hst6.atRaw (k := i) (by have := hst6.len; omega)
   rw [List.getElem?_eq_getElem hi] at hy
   rw [Option.some.inj hy]; exact hs
  have HX6 := Lib.hid (fun (wy : World) (k : All wx wy) => k.heap hx6 trivial)
  have HIS6 := Lib.hid (fun (wy : World) (k : All wx wy) => his6.keep k)
  have HST6 := Lib.hid (fun (wy : World) (k : All wx wy) => hst6.keep RRaw.ok k)
  have HAN6 := Lib.hid (fun (wy : World) (k : All wx wy) (z : Raw) (hz : z ∈ ts) => (hans6 z hz).keep RAns.ok k)
  have HSM := Lib.hid hsm
  have HALL := Lib.hid (fun (h : revsF s xs = 0) (z : Raw) (hz : z ∈ ts) => revsF_answers h z.1 (by rw [← hts]; exact List.mem_map_of_mem hz))
  have HC1 := Lib.hid (full_any a0 l0 c0 a1 l1 c1 a2 l2 c2 a3 l3 c3 a4 l4 c4 s al ll cl xs ts mn tm wx his6 hsx6 hst6 hsm (by omega) hcl (HG6.out wx (Kept.refl _ _)).g)
  have HC2 := Lib.hid (fun (wy : World) (k : All wx wy) => marks_any a0 l0 c0 a1 l1 c1 a2 l2 c2 a3 l3 c3 a4 l4 c4 s al ll cl xs ts key tm wy (his6.keep k) (hsx6.keep RRev.ok k) (hst6.keep RRaw.ok k) hsm (fun z hz => (hans6 z hz).keep RAns.ok k) (by omega) hcl (HG6.out wy k).g)
  have HC3 := Lib.hid (fun (wy : World) (k : All wx wy) => options_any a0 l0 c0 a1 l1 c1 a2 l2 c2 a3 l3 c3 a4 l4 c4 s al ll cl xs ts key p tm wy (his6.keep k) (hsx6.keep RRev.ok k) (hst6.keep RRaw.ok k) hts hsm (fun z hz => (hans6 z hz).keep RAns.ok k) (by omega) hcl (HG6.out wy k).g)
  have HNP := Lib.hid (show s.pairs.length ≤ 30 ∧ s.papers.length ≤ 30 from by have := his6.pairs.len; have := his6.papers.len; omega)
  have HNS := Lib.hid his6.sheet
  obtain ⟨e1, he1⟩ : ∃ z, z = fullE s xs mn tm := ⟨_, rfl⟩
  obtain ⟨e2, he2⟩ : ∃ z, z = markE s xs key tm := ⟨_, rfl⟩
  obtain ⟨e3, he3⟩ : ∃ z, z = optE s xs key p tm := ⟨_, rfl⟩
  rw [← he1] at HC1
  rw [← he2] at HC2
  rw [← he3] at HC3
  have HE1 := Lib.hid (show firstV [ef, if mn < 0 ∨ 10 < mn then 1 else 0, momF tm] = e1 from by rw [he1, fullE_first, HEF.out])
  have HE2 := Lib.hid (fun (h : ef = 0) => (show firstV [askE s.sheet key 10, momF tm] = e2 from by rw [he2, markE_first _ _ _ _ (HEF.out.symm.trans h)]))
  have HE3 := Lib.hid (fun (h : ef = 0) => (show firstV [askE s.sheet key 0, if decide (findG (isPap p) 0 s.papers < 0) = true then 8 else 0, momF tm] = e3 from by rw [he3, optE_first _ _ _ _ _ (HEF.out.symm.trans h)]))
  have HE2b := Lib.hid (fun (h : ef ≠ 0) => (show e2 = ef from by rw [he2, HEF.out, markE_bad _ _ _ _ (by rw [← HEF.out]; exact h)]))
  have HE3b := Lib.hid (fun (h : ef ≠ 0) => (show e3 = ef from by rw [he3, HEF.out, optE_bad _ _ _ _ _ (by rw [← HEF.out]; exact h)]))
  have HE2z := Lib.hid (fun (h : e2 = 0) => (show ef = 0 from by apply Classical.byContradiction; intro hn; rw [he2, markE_bad _ _ _ _ (by rw [← HEF.out]; exact hn), ← HEF.out] at h; exact hn h))
  have HE3z := Lib.hid (fun (h : e3 = 0) => (show ∃ x : Qst, s.sheet.find? (isQ key) = some x ∧ x.kind = 2 ∧ ef = 0 from by
   have h0 : ef = 0 := by apply Classical.byContradiction; intro hn; rw [he3, optE_bad _ _ _ _ _ (by rw [← HEF.out]; exact hn), ← HEF.out] at h; exact hn h
   have ha : askedE s xs key 0 = 0 := by apply Classical.byContradiction; intro hn; rw [he3, optE, if_pos hn] at h; exact hn h
   obtain ⟨q, h1, h2⟩ := askE_choice (askedE_zero ha).2
   exact ⟨q, h1, h2, h0⟩))
  obtain ⟨fl, hfl⟩ : ∃ z, z = fullP (doneL ts tm s.pairs) mn s.papers := ⟨_, rfl⟩
  have HFL := Lib.hid hfl
  have HFN := Lib.hid (show fl.length ≤ 30 from by rw [hfl]; exact Nat.le_trans (fullP_len _ _ _) HNP.out.2)
  rw [← hfl] at HC1
  obtain ⟨ml, hml⟩ : ∃ z, z = markL key (doneL ts tm s.pairs) := ⟨_, rfl⟩
  have HML := Lib.hid hml
  have HMN := Lib.hid (show ml.length ≤ 30 from by rw [hml]; exact Nat.le_trans (markL_len _ _) (Nat.le_trans (doneL_len _ _ _) HNP.out.1))
  rw [← hml] at HC2
  have e0 := cell_at (i := 0) hx6 rfl
  have e1 := cell_at (i := 1) hx6 rfl
  have e2 := cell_at (i := 2) hx6 rfl
  have e3 := cell_at (i := 3) hx6 rfl
  have e4 := cell_at (i := 4) hx6 rfl
  have e5 := cell_at (i := 5) hx6 rfl
  have e6 := cell_at (i := 6) hx6 rfl
  clear he1 he2 he3 hfl hml hx6 his6 hsx6 hst6 hans6 hsm hw6 hts hst hbut hm1 hm2
  go_wp2_with fail
  refine HC1.out.mono ?_
  rintro e w7 ⟨hv, hw7⟩
  obtain ⟨v1, rfl, hva, hvb⟩ := hv.gen
  have HA1 := Lib.hid hva
  have HA2 := Lib.hid hvb
  clear hv hva hvb e0 e1 e2 e3 e4 e5 e6
  have hx7 := HX6.out _ hw7
  have e0 := cell_at (i := 0) hx7 rfl
  have e1 := cell_at (i := 1) hx7 rfl
  have e2 := cell_at (i := 2) hx7 rfl
  have e3 := cell_at (i := 3) hx7 rfl
  have e4 := cell_at (i := 4) hx7 rfl
  have e5 := cell_at (i := 5) hx7 rfl
  have e6 := cell_at (i := 6) hx7 rfl
  clear hx7
  go_wp2_with fail
  refine (HC2.out _ hw7).mono ?_
  rintro e w8 ⟨hv, hw8'⟩
  obtain ⟨v2, rfl, hva, hvb⟩ := hv.gen
  have HB1 := Lib.hid hva
  have HB2 := Lib.hid hvb
  have hw8 := hw7.trans hw8'
  clear hv hva hvb e0 e1 e2 e3 e4 e5 e6
  have hx8 := HX6.out _ hw8
  have e0 := cell_at (i := 0) hx8 rfl
  have e1 := cell_at (i := 1) hx8 rfl
  have e2 := cell_at (i := 2) hx8 rfl
  have e3 := cell_at (i := 3) hx8 rfl
  have e4 := cell_at (i := 4) hx8 rfl
  have e5 := cell_at (i := 5) hx8 rfl
  have e6 := cell_at (i := 6) hx8 rfl
  clear hx8
  go_wp2_with fail
  refine (HC3.out _ hw8).mono ?_
  rintro e w9 ⟨⟨qx, hqx, hv⟩, hw9'⟩
  obtain ⟨v3, rfl, hva, hvb⟩ := hv.gen
  have HQX := Lib.hid hqx
  have HD1 := Lib.hid hva
  have HD2 := Lib.hid hvb
  have hw9 := hw8.trans hw9'
  have K79 := Lib.hid (hw8'.trans hw9')
  have K89 := Lib.hid hw9'
  clear hv hva hvb e0 e1 e2 e3 e4 e5 e6 hqx hw8' hw9' hw7 hw8
  obtain ⟨ol, hol⟩ : ∃ z, z = optL qx.opts key p (doneL ts tm s.pairs) := ⟨_, rfl⟩
  have HOL := Lib.hid hol
  rw [← hol] at HD1
  have HON := Lib.hid (fun (h : e3 = 0) => (show ol.length ≤ 1000 from by rw [hol, optL_len]; exact sheet_opts HNS.out (List.mem_of_find?_eq_some (HQX.out h))))
  clear hol
  obtain ⟨k1, hk1⟩ : ∃ z : Int, z = if mn < 0 ∨ 10 < mn then 1 else 0 := ⟨_, rfl⟩
  have HK1 := Lib.hid hk1
  rw [← hk1] at HE1
  clear hk1
  obtain ⟨mf, hmf⟩ : ∃ z, z = momF tm := ⟨_, rfl⟩
  have HMF := Lib.hid hmf
  rw [← hmf] at HE1 HE2 HE3
  clear hmf
  go_upto_region 8 with fail
  go_cut [17] (fun v wx => v = .int .i64 e1 ∧ All w9 wx)
  case first =>
   obtain ⟨x1, hx1⟩ : ∃ z, z = decide (mn < 0) := ⟨_, rfl⟩
   obtain ⟨x2, hx2⟩ : ∃ z, z = decide (10 < mn) := ⟨_, rfl⟩
   have hd1 := hx1.symm
   have hd2 := hx2.symm
   have HXX := Lib.hid (show (if (x1 || x2) = true then (1 : Int) else 0) = k1 from by rw [HK1.out, hx1, hx2]; simp)
   clear hx1 hx2
   cases x1 with
   | true =>
    clear hd2
    go_wp2_with fail
    refine (whenV_any _ _ _).mono ?_
    rintro e w' ⟨rfl, rfl⟩
    rw [show (if true = true then (1 : Int) else 0) = k1 from by rw [← HXX.out]; simp]
    go_wp2_with fail
    refine (momentFault_any tm _).mono ?_
    rintro e w' ⟨rfl, rfl⟩
    rw [show (if 0 ≤ tm ∧ tm < 5761440 then (0 : Int) else 1) = mf from by rw [HMF.out]; rfl]
    go_wp2_with fail
    refine (errsV_any (some ⟨w9.heap.size, 0, none⟩) 3 3 [ef, k1, mf] _ (Sl.lit_ints _ (heap_at _ _ _ rfl) rfl trivial) (by omega)).mono ?_
    rintro e w10 ⟨rfl, hh⟩
    have hk10 : All w9 w10 := by rw [← hh]; exact Kept.alloc _ _ _
    clear hh
    rw [HE1.out]
    go_wp2_with fail
    go_meet
    exact ⟨rfl, hk10⟩
   | false =>
    go_wp2_with fail
    refine (whenV_any _ _ _).mono ?_
    rintro e w' ⟨rfl, rfl⟩
    rw [show (if x2 = true then (1 : Int) else 0) = k1 from by rw [← HXX.out]; simp]
    go_wp2_with fail
    refine (momentFault_any tm _).mono ?_
    rintro e w' ⟨rfl, rfl⟩
    rw [show (if 0 ≤ tm ∧ tm < 5761440 then (0 : Int) else 1) = mf from by rw [HMF.out]; rfl]
    go_wp2_with fail
    refine (errsV_any (some ⟨w9.heap.size, 0, none⟩) 3 3 [ef, k1, mf] _ (Sl.lit_ints _ (heap_at _ _ _ rfl) rfl trivial) (by omega)).mono ?_
    rintro e w10 ⟨rfl, hh⟩
    have hk10 : All w9 w10 := by rw [← hh]; exact Kept.alloc _ _ _
    clear hh
    rw [HE1.out]
    go_wp2_with fail
    go_meet
    exact ⟨rfl, hk10⟩
  case rest =>
   obtain ⟨rfl, hk10⟩ := hcut
   obtain ⟨w10, rfl⟩ : ∃ x : World, x = wc := ⟨_, rfl⟩
   have hw10 := hw9.trans hk10
   have K90 := Lib.hid hk10
   clear hw9 hk10
   obtain ⟨eb, heb⟩ : ∃ b : Bool, (ef == 0) = b := ⟨_, rfl⟩
   go_upto_if 88 with fail
   go_cut [18, 19] (fun x y wx => Errs23 w10 e2 e3 x y wx)
   case first =>
    cases eb with
    | false =>
     have hne : ef ≠ 0 := by simpa using heb
     have HF := Lib.hid (show Errs23 w10 e2 e3 (.int .i64 ef) (.int .i64 ef) w10 from ⟨by rw [HE2b.out hne], by rw [HE3b.out hne], Kept.refl _ _⟩)
     clear hne heb
     go_wp2_with fail
     go_meet
     exact HF.out
    | true =>
     have h0 : ef = 0 := by simpa using heb
     have HZ2 := Lib.hid (HE2.out h0)
     have HZ3 := Lib.hid (HE3.out h0)
     clear heb h0
     have hx10 := HX6.out _ hw10
     have e0 := cell_at (i := 0) hx10 rfl
     have e1 := cell_at (i := 1) hx10 rfl
     have e2 := cell_at (i := 2) hx10 rfl
     have e3 := cell_at (i := 3) hx10 rfl
     have e4 := cell_at (i := 4) hx10 rfl
     have e5 := cell_at (i := 5) hx10 rfl
     have e6 := cell_at (i := 6) hx10 rfl
     clear hx10
     go_wp2_with fail
     refine (askFault10_any a0 l0 c0 a1 l1 c1 a2 l2 c2 a3 l3 c3 a4 l4 c4 s key _ (HIS6.out _ hw10)).mono ?_
     rintro e w11 ⟨rfl, hw11⟩
     obtain ⟨k2, hk2⟩ : ∃ z, z = askE s.sheet key 10 := ⟨_, rfl⟩
     rw [← hk2] at HZ2 ⊢
     clear hk2 e0 e1 e2 e3 e4 e5 e6
     go_wp2_with fail
     refine (momentFault_any tm _).mono ?_
     rintro e w' ⟨rfl, rfl⟩
     rw [show (if 0 ≤ tm ∧ tm < 5761440 then (0 : Int) else 1) = mf from by rw [HMF.out]; rfl]
     go_wp2_with fail
     refine (errsV_any (some ⟨w11.heap.size, 0, none⟩) 2 2 [k2, mf] _ (Sl.lit_ints _ (heap_at _ _ _ rfl) rfl trivial) (by omega)).mono ?_
     rintro e w12 ⟨rfl, hh⟩
     have hk12 : All w11 w12 := by rw [← hh]; exact Kept.alloc _ _ _
     have hk02 := hw11.trans hk12
     have hw12 := hw10.trans hk02
     clear hh hk12 hw11
     rw [HZ2.out]
     obtain ⟨k3, hk3⟩ : ∃ z, z = askE s.sheet key 0 := ⟨_, rfl⟩
     have HK3 := Lib.hid hk3
     rw [← hk3] at HZ3
     clear hk3
     obtain ⟨fp, hfp⟩ : ∃ z, z = findG (isPap p) 0 s.papers := ⟨_, rfl⟩
     have HFP := Lib.hid hfp
     rw [← hfp] at HZ3
     clear hfp
     obtain ⟨fb, hfb⟩ : ∃ z, z = decide (fp < 0) := ⟨_, rfl⟩
     have HFB := Lib.hid hfb
     rw [← hfb] at HZ3
     clear hfb
     obtain ⟨k4, hk4⟩ : ∃ z : Int, z = if fb = true then 8 else 0 := ⟨_, rfl⟩
     have HK4 := Lib.hid hk4
     rw [← hk4] at HZ3
     clear hk4
     go_wp2_with fail
     refine wp_region_inv 13 (by kernel_rfl) (by kernel_rfl) (by kernel_rfl) (fun _ wx => All w12 wx)
      (DL [QIs (.agg #[.slice a0 l0 c0, .slice a1 l1 c1, .slice a2 l2 c2, .slice a3 l3 c3, .slice a4 l4 c4, .int .i64 s.due, .int .i64 s.reply]), QIs (.string key), QIs (.int .i64 k3), QIs (.pointer (some ⟨xb, 1, none⟩)), QIs (.slice a1 l1 c1), QIs (.string p), QIs (.int .i64 fp), QIs (.bool fb), QIs (.int .i64 k4), QIs (.int .i64 tm), QIs (.int .i64 mf), QInts [k3, k4, mf] 33, QIs (.int .i64 e3)]) All
      (DL.keep (by simp only [List.forall_mem_cons, List.not_mem_nil, false_implies, implies_true, and_true]; exact ⟨QIs.stays _, QIs.stays _, QIs.stays _, QIs.stays _, QIs.stays _, QIs.stays _, QIs.stays _, QIs.stays _, QIs.stays _, QIs.stays _, QIs.stays _, QInts.stays _ _, QIs.stays _⟩)) ?_ ?_ ?_
     ·exact Kept.drew _ _
     ·intro i o t ho hd hi k' a' wx hk' hg hdf hts hoth hdeps
      have hszx := hg.size
      have hxx := HX6.out wx (hw12.trans hg)
      have d0 := cell_at (i := 0) hxx rfl
      have d1 := cell_at (i := 1) hxx rfl
      have d2 := cell_at (i := 2) hxx rfl
      have d3 := cell_at (i := 3) hxx rfl
      have d4 := cell_at (i := 4) hxx rfl
      have d5 := cell_at (i := 5) hxx rfl
      have d6 := cell_at (i := 6) hxx rfl
      clear hxx
      have hz : i = 0 ∨ i = 1 ∨ i = 2 ∨ i = 3 ∨ i = 4 ∨ i = 5 ∨ i = 6 ∨ i = 7 ∨ i = 8 ∨ i = 9 ∨ i = 10 ∨ i = 11 ∨ i = 12 := by omega
      rcases hz with rfl | rfl | rfl | rfl | rfl | rfl | rfl | rfl | rfl | rfl | rfl | rfl | rfl
      ·obtain rfl := Option.some.inj ho
       obtain rfl := Option.some.inj hd
       have e0 : a'.tmps.getD 4 undef = (.pointer (some ⟨xb, 0, none⟩)) := tmp_of ((hoth 4 (by decide)).trans rfl)
       clear hoth hdeps hdf hts ho
       refine wp_via (fun K' hK => ?_)
       have HK := Lib.hid hK
       clear hK
       go_simp
       exact HK.out _ _ ⟨_, rfl, hg, Kept.refl _ _, rfl⟩
      ·obtain rfl := Option.some.inj ho
       obtain rfl := Option.some.inj hd
       have e0 : a'.tmps.getD 9 undef = (.string key) := tmp_of ((hoth 9 (by decide)).trans rfl)
       clear hoth hdeps hdf hts ho
       refine wp_via (fun K' hK => ?_)
       have HK := Lib.hid hK
       clear hK
       go_simp
       exact HK.out _ _ ⟨_, rfl, hg, Kept.refl _ _, rfl⟩
      ·obtain rfl := Option.some.inj ho
       obtain rfl := Option.some.inj hd
       have e0 : a'.tmps.getD 96 undef = (.agg #[.slice a0 l0 c0, .slice a1 l1 c1, .slice a2 l2 c2, .slice a3 l3 c3, .slice a4 l4 c4, .int .i64 s.due, .int .i64 s.reply]) := hdeps 0 (by decide) 96 rfl
       have e1 : a'.tmps.getD 97 undef = (.string key) := hdeps 1 (by decide) 97 rfl
       clear hoth hdeps hdf hts ho
       refine wp_via (fun K' hK => ?_)
       have HK := Lib.hid hK
       clear hK
       go_simp
       refine (askFault0_any a0 l0 c0 a1 l1 c1 a2 l2 c2 a3 l3 c3 a4 l4 c4 s key _ (HIS6.out _ (hw12.trans hg))).mono ?_
       rintro e w2x ⟨rfl, hk2x⟩
       exact HK.out _ _ ⟨_, rfl, hg.trans hk2x, hk2x, by rw [HK3.out]; rfl⟩
      ·obtain rfl := Option.some.inj ho
       obtain rfl := Option.some.inj hd
       have e0 : a'.tmps.getD 4 undef = (.pointer (some ⟨xb, 0, none⟩)) := tmp_of ((hoth 4 (by decide)).trans rfl)
       clear hoth hdeps hdf hts ho
       refine wp_via (fun K' hK => ?_)
       have HK := Lib.hid hK
       clear hK
       go_simp
       exact HK.out _ _ ⟨_, rfl, hg, Kept.refl _ _, rfl⟩
      ·obtain rfl := Option.some.inj ho
       obtain rfl := Option.some.inj hd
       have e0 : a'.tmps.getD 99 undef = (.pointer (some ⟨xb, 1, none⟩)) := hdeps 3 (by decide) 99 rfl
       clear hoth hdeps hdf hts ho
       refine wp_via (fun K' hK => ?_)
       have HK := Lib.hid hK
       clear hK
       go_simp
       exact HK.out _ _ ⟨_, rfl, hg, Kept.refl _ _, rfl⟩
      ·obtain rfl := Option.some.inj ho
       obtain rfl := Option.some.inj hd
       have e0 : a'.tmps.getD 10 undef = (.string p) := tmp_of ((hoth 10 (by decide)).trans rfl)
       clear hoth hdeps hdf hts ho
       refine wp_via (fun K' hK => ?_)
       have HK := Lib.hid hK
       clear hK
       go_simp
       exact HK.out _ _ ⟨_, rfl, hg, Kept.refl _ _, rfl⟩
      ·obtain rfl := Option.some.inj ho
       obtain rfl := Option.some.inj hd
       have e0 : a'.tmps.getD 100 undef = (.slice a1 l1 c1) := hdeps 4 (by decide) 100 rfl
       have e1 : a'.tmps.getD 101 undef = (.string p) := hdeps 5 (by decide) 101 rfl
       clear hoth hdeps hdf hts ho
       refine wp_via (fun K' hK => ?_)
       have HK := Lib.hid hK
       clear hK
       go_simp
       refine (paperAt_any a1 l1 c1 s.papers p _ (HIS6.out _ (hw12.trans hg)).papers (by omega)).mono ?_
       rintro e w2x ⟨rfl, hk2x⟩
       exact HK.out _ _ ⟨_, rfl, hg.trans hk2x, hk2x, by rw [HFP.out]; rfl⟩
      ·obtain rfl := Option.some.inj ho
       obtain rfl := Option.some.inj hd
       have e0 : a'.tmps.getD 102 undef = (.int .i64 fp) := hdeps 6 (by decide) 102 rfl
       clear hoth hdeps hdf hts ho
       refine wp_via (fun K' hK => ?_)
       have HK := Lib.hid hK
       clear hK
       go_simp
       exact HK.out _ _ ⟨_, rfl, hg, Kept.refl _ _, by rw [HFB.out]; rfl⟩
      ·obtain rfl := Option.some.inj ho
       obtain rfl := Option.some.inj hd
       have e0 : a'.tmps.getD 103 undef = (.bool fb) := hdeps 7 (by decide) 103 rfl
       clear hoth hdeps hdf hts ho
       refine wp_via (fun K' hK => ?_)
       have HK := Lib.hid hK
       clear hK
       go_simp
       refine (whenV_any _ _ _).mono ?_
       rintro e w2x ⟨rfl, rfl⟩
       exact HK.out _ _ ⟨_, rfl, hg, Kept.refl _ _, by rw [HK4.out]; rfl⟩
      ·obtain rfl := Option.some.inj ho
       obtain rfl := Option.some.inj hd
       have e0 : a'.tmps.getD 7 undef = (.int .i64 tm) := tmp_of ((hoth 7 (by decide)).trans rfl)
       clear hoth hdeps hdf hts ho
       refine wp_via (fun K' hK => ?_)
       have HK := Lib.hid hK
       clear hK
       go_simp
       exact HK.out _ _ ⟨_, rfl, hg, Kept.refl _ _, rfl⟩
      ·obtain rfl := Option.some.inj ho
       obtain rfl := Option.some.inj hd
       have e0 : a'.tmps.getD 105 undef = (.int .i64 tm) := hdeps 9 (by decide) 105 rfl
       clear hoth hdeps hdf hts ho
       refine wp_via (fun K' hK => ?_)
       have HK := Lib.hid hK
       clear hK
       go_simp
       refine (momentFault_any tm _).mono ?_
       rintro e w2x ⟨rfl, rfl⟩
       exact HK.out _ _ ⟨_, rfl, hg, Kept.refl _ _, by rw [HMF.out]; rfl⟩
      ·obtain rfl := Option.some.inj ho
       obtain rfl := Option.some.inj hd
       have g1 : a'.tmps.getD 98 undef = (.int .i64 k3) := hdeps 2 (by decide) 98 rfl
       have g2 : a'.tmps.getD 104 undef = (.int .i64 k4) := hdeps 8 (by decide) 104 rfl
       have g3 : a'.tmps.getD 106 undef = (.int .i64 mf) := hdeps 10 (by decide) 106 rfl
       have q1 : a'.tmps[98]?.getD undef = (.int .i64 k3) := by rw [← Array.getD_eq_getD_getElem?]; exact g1
       have q2 : a'.tmps[104]?.getD undef = (.int .i64 k4) := by rw [← Array.getD_eq_getD_getElem?]; exact g2
       have q3 : a'.tmps[106]?.getD undef = (.int .i64 mf) := by rw [← Array.getD_eq_getD_getElem?]; exact g3
       clear hoth hdeps hdf hts ho
       refine wp_via (fun K' hK => ?_)
       have HK := Lib.hid hK
       clear hK
       go_simp
       exact HK.out _ _ ⟨_, rfl, hg.then_alloc _, Kept.alloc _ _ _, ⟨wx.heap.size, rfl, heap_at _ _ _ rfl⟩⟩
      ·obtain rfl := Option.some.inj ho
       obtain rfl := Option.some.inj hd
       obtain ⟨b, e0, hbb⟩ : QInts [k3, k4, mf] 33 (a'.tmps.getD 107 undef) wx := hdeps 11 (by decide) 107 rfl
       replace e0 : a'.tmps.getD 107 undef = .slice (some ⟨b, 0, none⟩) 3 3 := e0
       clear hoth hdeps hdf hts ho
       refine wp_via (fun K' hK => ?_)
       have HK := Lib.hid hK
       clear hK
       go_simp
       refine (errsV_any (some ⟨b, 0, none⟩) 3 3 [k3, k4, mf] _ (Sl.lit_ints _ hbb rfl trivial) (by omega)).mono ?_
       rintro e w2x ⟨rfl, rfl⟩
       exact HK.out _ _ ⟨_, rfl, hg, Kept.refl _ _, by rw [HZ3.out]; rfl⟩
     ·intro wx f hg hd
      have e108 : f 108 = .int .i64 e3 := hd 12 108 (by decide) rfl
      rw [show dsts _ 13 = [96, 97, 98, 99, 100, 101, 102, 103, 104, 105, 106, 107, 108] from by kernel_rfl]
      simp only [List.map_cons, List.map_nil, puts, Act.put, e108, List.drop_succ_cons, List.drop_zero]
      generalize f 96 = f96
      generalize f 97 = f97
      generalize f 98 = f98
      generalize f 99 = f99
      generalize f 100 = f100
      generalize f 101 = f101
      generalize f 102 = f102
      generalize f 103 = f103
      generalize f 104 = f104
      generalize f 105 = f105
      generalize f 106 = f106
      generalize f 107 = f107
      clear hd e108
      simp only [List.setIfInBounds_toArray, List.set_cons_zero, List.set_cons_succ]
      have HF := Lib.hid (hk02.trans hg)
      clear hg
      go_wp2_with fail
      go_meet
      exact ⟨rfl, rfl, HF.out⟩
   case rest =>
    obtain ⟨rfl, rfl, hk12⟩ := hcut
    obtain ⟨w12, rfl⟩ : ∃ x : World, x = wc := ⟨_, rfl⟩
    have hw12 := hw10.trans hk12
    have hz1 : (e1 != e1) = false := by simp
    have hz2 : (e2 != e2) = false := by simp
    have hz3 : (e3 != e3) = false := by simp
    have KA := Lib.hid (K79.out.trans (K90.out.trans hk12))
    have KB := Lib.hid (K89.out.trans (K90.out.trans hk12))
    have KD := Lib.hid (K90.out.trans hk12)
    clear heb hw10 hk12
    by_cases h1 : e1 = 0
    case neg =>
     obtain rfl := HA2.out h1
     have hd0 : (e1 != 0) = true := by simpa using h1
     by_cases h2 : e2 = 0
     case neg =>
      obtain rfl := HB2.out h2
      have hd1 : (e2 != 0) = true := by simpa using h2
      by_cases h3 : e3 = 0
      case neg =>
       obtain rfl := HD2.out h3
       have hd2 : (e3 != 0) = true := by simpa using h3
       clear h1 h2 h3
       go_wp2_with fail
       refine (asked_any _ (HG6.out _ hw12).g).mono ?_
       rintro e we ⟨rfl, hwe⟩
       go_wp2_with fail
       go_ret
       exact ⟨rfl, hend.out _ (hw12.trans hwe)⟩
      case pos =>
       obtain ⟨pp2, cc2, rfl, hs⟩ := HD1.out h3
       have HS3 := Lib.hid (fun (wy : World) (kw : All w12 wy) => (hs.keep RInt.ok KD.out).keep RInt.ok kw)
       clear hs
       have hln2 : ol.length ≤ 1000 := Nat.le_trans (HON.out h3) (by decide)
       have hd2 : (e3 != 0) = false := by simpa using h3
       obtain ⟨qy, hy1, hy2, hy3⟩ := HE3z.out h3
       have HQ3 := Lib.hid (HQX.out h3)
       have HKD := Lib.hid (show qx.kind = 2 from by have := HQ3.out; rw [hy1] at this; rw [← Option.some.inj this]; exact hy2)
       have HR3 := Lib.hid (HEF.out.symm.trans hy3)
       clear hy1 hy2 hy3
       clear h1 h2 h3
       have hxc := HX6.out _ hw12
       have e0c := cell_at (i := 0) hxc rfl
       have e1c := cell_at (i := 1) hxc rfl
       have e2c := cell_at (i := 2) hxc rfl
       have e3c := cell_at (i := 3) hxc rfl
       have e4c := cell_at (i := 4) hxc rfl
       have e5c := cell_at (i := 5) hxc rfl
       have e6c := cell_at (i := 6) hxc rfl
       clear hxc
       go_wp2_with fail
       refine (optionsOf_any a0 l0 c0 a1 l1 c1 a2 l2 c2 a3 l3 c3 a4 l4 c4 s al ll cl ts key p tm qx _ (HIS6.out _ hw12) (HST6.out _ hw12) HSM.out (HAN6.out _ hw12) (HALL.out HR3.out) (by omega) HQ3.out HKD.out).mono ?_
       rintro e wq2 ⟨⟨pq, cq, rfl, hsq⟩, hq2⟩
       rw [← HOL.out] at hsq ⊢
       have hqk2 := hw12.trans hq2
       have aqk2 := (Kept.refl (fun _ => True) w12).trans hq2
       clear e0c e1c e2c e3c e4c e5c e6c
       have HEQ2 := Lib.hid (equalInt_same _ _ cc2 pq _ cq ol wq2 (HS3.out _ aqk2) hsq (by omega))
       clear hsq
       go_wp2_with fail
       refine HEQ2.out.mono ?_
       rintro e wr2 ⟨rfl, hr2⟩
       have hrk2 := hqk2.trans hr2
       have ark2 := aqk2.trans hr2
       go_wp2_with fail
       refine (asked_any _ (HG6.out _ hrk2).g).mono ?_
       rintro e we ⟨rfl, hwe⟩
       go_wp2_with fail
       go_ret
       exact ⟨rfl, hend.out _ (hrk2.trans hwe)⟩
     case pos =>
      obtain ⟨pp1, cc1, rfl, hs⟩ := HB1.out h2
      have HS2 := Lib.hid (fun (wy : World) (kw : All w12 wy) => (hs.keep RMark.ok KB.out).keep RMark.ok kw)
      clear hs
      have hln1 : ml.length ≤ 1000 := Nat.le_trans (HMN.out) (by decide)
      have hd1 : (e2 != 0) = false := by simpa using h2
      have HR2 := Lib.hid (HEF.out.symm.trans (HE2z.out h2))
      by_cases h3 : e3 = 0
      case neg =>
       obtain rfl := HD2.out h3
       have hd2 : (e3 != 0) = true := by simpa using h3
       clear h1 h2 h3
       have hxc := HX6.out _ hw12
       have e0c := cell_at (i := 0) hxc rfl
       have e1c := cell_at (i := 1) hxc rfl
       have e2c := cell_at (i := 2) hxc rfl
       have e3c := cell_at (i := 3) hxc rfl
       have e4c := cell_at (i := 4) hxc rfl
       have e5c := cell_at (i := 5) hxc rfl
       have e6c := cell_at (i := 6) hxc rfl
       clear hxc
       go_wp2_with fail
       refine (marksOf_any a0 l0 c0 a1 l1 c1 a2 l2 c2 a3 l3 c3 a4 l4 c4 s al ll cl ts key tm _ (HIS6.out _ hw12) (HST6.out _ hw12) HSM.out (HAN6.out _ hw12) (HALL.out HR2.out) (by omega) (by omega)).mono ?_
       rintro e wq1 ⟨⟨pq, cq, rfl, hsq⟩, hq1⟩
       rw [← HML.out] at hsq ⊢
       have hqk1 := hw12.trans hq1
       have aqk1 := (Kept.refl (fun _ => True) w12).trans hq1
       clear e0c e1c e2c e3c e4c e5c e6c
       have HEQ1 := Lib.hid (equalMark_same _ _ cc1 pq _ cq ml wq1 (HS2.out _ aqk1) hsq (by omega))
       clear hsq
       go_wp2_with fail
       refine HEQ1.out.mono ?_
       rintro e wr1 ⟨rfl, hr1⟩
       have hrk1 := hqk1.trans hr1
       have ark1 := aqk1.trans hr1
       go_wp2_with fail
       refine (asked_any _ (HG6.out _ hrk1).g).mono ?_
       rintro e we ⟨rfl, hwe⟩
       go_wp2_with fail
       go_ret
       exact ⟨rfl, hend.out _ (hrk1.trans hwe)⟩
      case pos =>
       obtain ⟨pp2, cc2, rfl, hs⟩ := HD1.out h3
       have HS3 := Lib.hid (fun (wy : World) (kw : All w12 wy) => (hs.keep RInt.ok KD.out).keep RInt.ok kw)
       clear hs
       have hln2 : ol.length ≤ 1000 := Nat.le_trans (HON.out h3) (by decide)
       have hd2 : (e3 != 0) = false := by simpa using h3
       obtain ⟨qy, hy1, hy2, hy3⟩ := HE3z.out h3
       have HQ3 := Lib.hid (HQX.out h3)
       have HKD := Lib.hid (show qx.kind = 2 from by have := HQ3.out; rw [hy1] at this; rw [← Option.some.inj this]; exact hy2)
       have HR3 := Lib.hid (HEF.out.symm.trans hy3)
       clear hy1 hy2 hy3
       clear h1 h2 h3
       have hxc := HX6.out _ hw12
       have e0c := cell_at (i := 0) hxc rfl
       have e1c := cell_at (i := 1) hxc rfl
       have e2c := cell_at (i := 2) hxc rfl
       have e3c := cell_at (i := 3) hxc rfl
       have e4c := cell_at (i := 4) hxc rfl
       have e5c := cell_at (i := 5) hxc rfl
       have e6c := cell_at (i := 6) hxc rfl
       clear hxc
       go_wp2_with fail
       refine (marksOf_any a0 l0 c0 a1 l1 c1 a2 l2 c2 a3 l3 c3 a4 l4 c4 s al ll cl ts key tm _ (HIS6.out _ hw12) (HST6.out _ hw12) HSM.out (HAN6.out _ hw12) (HALL.out HR2.out) (by omega) (by omega)).mono ?_
       rintro e wq1 ⟨⟨pq, cq, rfl, hsq⟩, hq1⟩
       rw [← HML.out] at hsq ⊢
       have hqk1 := hw12.trans hq1
       have aqk1 := (Kept.refl (fun _ => True) w12).trans hq1
       clear e0c e1c e2c e3c e4c e5c e6c
       have HEQ1 := Lib.hid (equalMark_same _ _ cc1 pq _ cq ml wq1 (HS2.out _ aqk1) hsq (by omega))
       clear hsq
       go_wp2_with fail
       refine HEQ1.out.mono ?_
       rintro e wr1 ⟨rfl, hr1⟩
       have hrk1 := hqk1.trans hr1
       have ark1 := aqk1.trans hr1
       have hxc := HX6.out _ hrk1
       have e0c := cell_at (i := 0) hxc rfl
       have e1c := cell_at (i := 1) hxc rfl
       have e2c := cell_at (i := 2) hxc rfl
       have e3c := cell_at (i := 3) hxc rfl
       have e4c := cell_at (i := 4) hxc rfl
       have e5c := cell_at (i := 5) hxc rfl
       have e6c := cell_at (i := 6) hxc rfl
       clear hxc
       go_wp2_with fail
       refine (optionsOf_any a0 l0 c0 a1 l1 c1 a2 l2 c2 a3 l3 c3 a4 l4 c4 s al ll cl ts key p tm qx _ (HIS6.out _ hrk1) (HST6.out _ hrk1) HSM.out (HAN6.out _ hrk1) (HALL.out HR3.out) (by omega) HQ3.out HKD.out).mono ?_
       rintro e wq2 ⟨⟨pq, cq, rfl, hsq⟩, hq2⟩
       rw [← HOL.out] at hsq ⊢
       have hqk2 := hrk1.trans hq2
       have aqk2 := ark1.trans hq2
       clear e0c e1c e2c e3c e4c e5c e6c
       have HEQ2 := Lib.hid (equalInt_same _ _ cc2 pq _ cq ol wq2 (HS3.out _ aqk2) hsq (by omega))
       clear hsq
       go_wp2_with fail
       refine HEQ2.out.mono ?_
       rintro e wr2 ⟨rfl, hr2⟩
       have hrk2 := hqk2.trans hr2
       have ark2 := aqk2.trans hr2
       go_wp2_with fail
       refine (asked_any _ (HG6.out _ hrk2).g).mono ?_
       rintro e we ⟨rfl, hwe⟩
       go_wp2_with fail
       go_ret
       exact ⟨rfl, hend.out _ (hrk2.trans hwe)⟩
    case pos =>
     obtain ⟨pp0, cc0, rfl, hs⟩ := HA1.out h1
     have HS1 := Lib.hid (fun (wy : World) (kw : All w12 wy) => (hs.keep RStr.ok KA.out).keep RStr.ok kw)
     clear hs
     have hln0 : fl.length ≤ 1000 := Nat.le_trans (HFN.out) (by decide)
     have hd0 : (e1 != 0) = false := by simpa using h1
     by_cases h2 : e2 = 0
     case neg =>
      obtain rfl := HB2.out h2
      have hd1 : (e2 != 0) = true := by simpa using h2
      by_cases h3 : e3 = 0
      case neg =>
       obtain rfl := HD2.out h3
       have hd2 : (e3 != 0) = true := by simpa using h3
       clear h1 h2 h3
       have hxc := HX6.out _ hw12
       have e0c := cell_at (i := 0) hxc rfl
       have e1c := cell_at (i := 1) hxc rfl
       have e2c := cell_at (i := 2) hxc rfl
       have e3c := cell_at (i := 3) hxc rfl
       have e4c := cell_at (i := 4) hxc rfl
       have e5c := cell_at (i := 5) hxc rfl
       have e6c := cell_at (i := 6) hxc rfl
       clear hxc
       go_wp2_with fail
       refine (fullOf_any a0 l0 c0 a1 l1 c1 a2 l2 c2 a3 l3 c3 a4 l4 c4 s al ll cl ts mn tm _ (HIS6.out _ hw12) (HST6.out _ hw12) (by omega)).mono ?_
       rintro e wq0 ⟨⟨pq, cq, rfl, hsq⟩, hq0⟩
       rw [← HFL.out] at hsq ⊢
       have hqk0 := hw12.trans hq0
       have aqk0 := (Kept.refl (fun _ => True) w12).trans hq0
       clear e0c e1c e2c e3c e4c e5c e6c
       have HEQ0 := Lib.hid (equalStr_same _ _ cc0 pq _ cq fl wq0 (HS1.out _ aqk0) hsq (by omega))
       clear hsq
       go_wp2_with fail
       refine HEQ0.out.mono ?_
       rintro e wr0 ⟨rfl, hr0⟩
       have hrk0 := hqk0.trans hr0
       have ark0 := aqk0.trans hr0
       go_wp2_with fail
       refine (asked_any _ (HG6.out _ hrk0).g).mono ?_
       rintro e we ⟨rfl, hwe⟩
       go_wp2_with fail
       go_ret
       exact ⟨rfl, hend.out _ (hrk0.trans hwe)⟩
      case pos =>
       obtain ⟨pp2, cc2, rfl, hs⟩ := HD1.out h3
       have HS3 := Lib.hid (fun (wy : World) (kw : All w12 wy) => (hs.keep RInt.ok KD.out).keep RInt.ok kw)
       clear hs
       have hln2 : ol.length ≤ 1000 := Nat.le_trans (HON.out h3) (by decide)
       have hd2 : (e3 != 0) = false := by simpa using h3
       obtain ⟨qy, hy1, hy2, hy3⟩ := HE3z.out h3
       have HQ3 := Lib.hid (HQX.out h3)
       have HKD := Lib.hid (show qx.kind = 2 from by have := HQ3.out; rw [hy1] at this; rw [← Option.some.inj this]; exact hy2)
       have HR3 := Lib.hid (HEF.out.symm.trans hy3)
       clear hy1 hy2 hy3
       clear h1 h2 h3
       have hxc := HX6.out _ hw12
       have e0c := cell_at (i := 0) hxc rfl
       have e1c := cell_at (i := 1) hxc rfl
       have e2c := cell_at (i := 2) hxc rfl
       have e3c := cell_at (i := 3) hxc rfl
       have e4c := cell_at (i := 4) hxc rfl
       have e5c := cell_at (i := 5) hxc rfl
       have e6c := cell_at (i := 6) hxc rfl
       clear hxc
       go_wp2_with fail
       refine (fullOf_any a0 l0 c0 a1 l1 c1 a2 l2 c2 a3 l3 c3 a4 l4 c4 s al ll cl ts mn tm _ (HIS6.out _ hw12) (HST6.out _ hw12) (by omega)).mono ?_
       rintro e wq0 ⟨⟨pq, cq, rfl, hsq⟩, hq0⟩
       rw [← HFL.out] at hsq ⊢
       have hqk0 := hw12.trans hq0
       have aqk0 := (Kept.refl (fun _ => True) w12).trans hq0
       clear e0c e1c e2c e3c e4c e5c e6c
       have HEQ0 := Lib.hid (equalStr_same _ _ cc0 pq _ cq fl wq0 (HS1.out _ aqk0) hsq (by omega))
       clear hsq
       go_wp2_with fail
       refine HEQ0.out.mono ?_
       rintro e wr0 ⟨rfl, hr0⟩
       have hrk0 := hqk0.trans hr0
       have ark0 := aqk0.trans hr0
       have hxc := HX6.out _ hrk0
       have e0c := cell_at (i := 0) hxc rfl
       have e1c := cell_at (i := 1) hxc rfl
       have e2c := cell_at (i := 2) hxc rfl
       have e3c := cell_at (i := 3) hxc rfl
       have e4c := cell_at (i := 4) hxc rfl
       have e5c := cell_at (i := 5) hxc rfl
       have e6c := cell_at (i := 6) hxc rfl
       clear hxc
       go_wp2_with fail
       refine (optionsOf_any a0 l0 c0 a1 l1 c1 a2 l2 c2 a3 l3 c3 a4 l4 c4 s al ll cl ts key p tm qx _ (HIS6.out _ hrk0) (HST6.out _ hrk0) HSM.out (HAN6.out _ hrk0) (HALL.out HR3.out) (by omega) HQ3.out HKD.out).mono ?_
       rintro e wq2 ⟨⟨pq, cq, rfl, hsq⟩, hq2⟩
       rw [← HOL.out] at hsq ⊢
       have hqk2 := hrk0.trans hq2
       have aqk2 := ark0.trans hq2
       clear e0c e1c e2c e3c e4c e5c e6c
       have HEQ2 := Lib.hid (equalInt_same _ _ cc2 pq _ cq ol wq2 (HS3.out _ aqk2) hsq (by omega))
       clear hsq
       go_wp2_with fail
       refine HEQ2.out.mono ?_
       rintro e wr2 ⟨rfl, hr2⟩
       have hrk2 := hqk2.trans hr2
       have ark2 := aqk2.trans hr2
       go_wp2_with fail
       refine (asked_any _ (HG6.out _ hrk2).g).mono ?_
       rintro e we ⟨rfl, hwe⟩
       go_wp2_with fail
       go_ret
       exact ⟨rfl, hend.out _ (hrk2.trans hwe)⟩
     case pos =>
      obtain ⟨pp1, cc1, rfl, hs⟩ := HB1.out h2
      have HS2 := Lib.hid (fun (wy : World) (kw : All w12 wy) => (hs.keep RMark.ok KB.out).keep RMark.ok kw)
      clear hs
      have hln1 : ml.length ≤ 1000 := Nat.le_trans (HMN.out) (by decide)
      have hd1 : (e2 != 0) = false := by simpa using h2
      have HR2 := Lib.hid (HEF.out.symm.trans (HE2z.out h2))
      by_cases h3 : e3 = 0
      case neg =>
       obtain rfl := HD2.out h3
       have hd2 : (e3 != 0) = true := by simpa using h3
       clear h1 h2 h3
       have hxc := HX6.out _ hw12
       have e0c := cell_at (i := 0) hxc rfl
       have e1c := cell_at (i := 1) hxc rfl
       have e2c := cell_at (i := 2) hxc rfl
       have e3c := cell_at (i := 3) hxc rfl
       have e4c := cell_at (i := 4) hxc rfl
       have e5c := cell_at (i := 5) hxc rfl
       have e6c := cell_at (i := 6) hxc rfl
       clear hxc
       go_wp2_with fail
       refine (fullOf_any a0 l0 c0 a1 l1 c1 a2 l2 c2 a3 l3 c3 a4 l4 c4 s al ll cl ts mn tm _ (HIS6.out _ hw12) (HST6.out _ hw12) (by omega)).mono ?_
       rintro e wq0 ⟨⟨pq, cq, rfl, hsq⟩, hq0⟩
       rw [← HFL.out] at hsq ⊢
       have hqk0 := hw12.trans hq0
       have aqk0 := (Kept.refl (fun _ => True) w12).trans hq0
       clear e0c e1c e2c e3c e4c e5c e6c
       have HEQ0 := Lib.hid (equalStr_same _ _ cc0 pq _ cq fl wq0 (HS1.out _ aqk0) hsq (by omega))
       clear hsq
       go_wp2_with fail
       refine HEQ0.out.mono ?_
       rintro e wr0 ⟨rfl, hr0⟩
       have hrk0 := hqk0.trans hr0
       have ark0 := aqk0.trans hr0
       have hxc := HX6.out _ hrk0
       have e0c := cell_at (i := 0) hxc rfl
       have e1c := cell_at (i := 1) hxc rfl
       have e2c := cell_at (i := 2) hxc rfl
       have e3c := cell_at (i := 3) hxc rfl
       have e4c := cell_at (i := 4) hxc rfl
       have e5c := cell_at (i := 5) hxc rfl
       have e6c := cell_at (i := 6) hxc rfl
       clear hxc
       go_wp2_with fail
       refine (marksOf_any a0 l0 c0 a1 l1 c1 a2 l2 c2 a3 l3 c3 a4 l4 c4 s al ll cl ts key tm _ (HIS6.out _ hrk0) (HST6.out _ hrk0) HSM.out (HAN6.out _ hrk0) (HALL.out HR2.out) (by omega) (by omega)).mono ?_
       rintro e wq1 ⟨⟨pq, cq, rfl, hsq⟩, hq1⟩
       rw [← HML.out] at hsq ⊢
       have hqk1 := hrk0.trans hq1
       have aqk1 := ark0.trans hq1
       clear e0c e1c e2c e3c e4c e5c e6c
       have HEQ1 := Lib.hid (equalMark_same _ _ cc1 pq _ cq ml wq1 (HS2.out _ aqk1) hsq (by omega))
       clear hsq
       go_wp2_with fail
       refine HEQ1.out.mono ?_
       rintro e wr1 ⟨rfl, hr1⟩
       have hrk1 := hqk1.trans hr1
       have ark1 := aqk1.trans hr1
       go_wp2_with fail
       refine (asked_any _ (HG6.out _ hrk1).g).mono ?_
       rintro e we ⟨rfl, hwe⟩
       go_wp2_with fail
       go_ret
       exact ⟨rfl, hend.out _ (hrk1.trans hwe)⟩
      case pos =>
       obtain ⟨pp2, cc2, rfl, hs⟩ := HD1.out h3
       have HS3 := Lib.hid (fun (wy : World) (kw : All w12 wy) => (hs.keep RInt.ok KD.out).keep RInt.ok kw)
       clear hs
       have hln2 : ol.length ≤ 1000 := Nat.le_trans (HON.out h3) (by decide)
       have hd2 : (e3 != 0) = false := by simpa using h3
       obtain ⟨qy, hy1, hy2, hy3⟩ := HE3z.out h3
       have HQ3 := Lib.hid (HQX.out h3)
       have HKD := Lib.hid (show qx.kind = 2 from by have := HQ3.out; rw [hy1] at this; rw [← Option.some.inj this]; exact hy2)
       have HR3 := Lib.hid (HEF.out.symm.trans hy3)
       clear hy1 hy2 hy3
       clear h1 h2 h3
       have hxc := HX6.out _ hw12
       have e0c := cell_at (i := 0) hxc rfl
       have e1c := cell_at (i := 1) hxc rfl
       have e2c := cell_at (i := 2) hxc rfl
       have e3c := cell_at (i := 3) hxc rfl
       have e4c := cell_at (i := 4) hxc rfl
       have e5c := cell_at (i := 5) hxc rfl
       have e6c := cell_at (i := 6) hxc rfl
       clear hxc
       go_wp2_with fail
       refine (fullOf_any a0 l0 c0 a1 l1 c1 a2 l2 c2 a3 l3 c3 a4 l4 c4 s al ll cl ts mn tm _ (HIS6.out _ hw12) (HST6.out _ hw12) (by omega)).mono ?_
       rintro e wq0 ⟨⟨pq, cq, rfl, hsq⟩, hq0⟩
       rw [← HFL.out] at hsq ⊢
       have hqk0 := hw12.trans hq0
       have aqk0 := (Kept.refl (fun _ => True) w12).trans hq0
       clear e0c e1c e2c e3c e4c e5c e6c
       have HEQ0 := Lib.hid (equalStr_same _ _ cc0 pq _ cq fl wq0 (HS1.out _ aqk0) hsq (by omega))
       clear hsq
       go_wp2_with fail
       refine HEQ0.out.mono ?_
       rintro e wr0 ⟨rfl, hr0⟩
       have hrk0 := hqk0.trans hr0
       have ark0 := aqk0.trans hr0
       have hxc := HX6.out _ hrk0
       have e0c := cell_at (i := 0) hxc rfl
       have e1c := cell_at (i := 1) hxc rfl
       have e2c := cell_at (i := 2) hxc rfl
       have e3c := cell_at (i := 3) hxc rfl
       have e4c := cell_at (i := 4) hxc rfl
       have e5c := cell_at (i := 5) hxc rfl
       have e6c := cell_at (i := 6) hxc rfl
       clear hxc
       go_wp2_with fail
       refine (marksOf_any a0 l0 c0 a1 l1 c1 a2 l2 c2 a3 l3 c3 a4 l4 c4 s al ll cl ts key tm _ (HIS6.out _ hrk0) (HST6.out _ hrk0) HSM.out (HAN6.out _ hrk0) (HALL.out HR2.out) (by omega) (by omega)).mono ?_
       rintro e wq1 ⟨⟨pq, cq, rfl, hsq⟩, hq1⟩
       rw [← HML.out] at hsq ⊢
       have hqk1 := hrk0.trans hq1
       have aqk1 := ark0.trans hq1
       clear e0c e1c e2c e3c e4c e5c e6c
       have HEQ1 := Lib.hid (equalMark_same _ _ cc1 pq _ cq ml wq1 (HS2.out _ aqk1) hsq (by omega))
       clear hsq
       go_wp2_with fail
       refine HEQ1.out.mono ?_
       rintro e wr1 ⟨rfl, hr1⟩
       have hrk1 := hqk1.trans hr1
       have ark1 := aqk1.trans hr1
       have hxc := HX6.out _ hrk1
       have e0c := cell_at (i := 0) hxc rfl
       have e1c := cell_at (i := 1) hxc rfl
       have e2c := cell_at (i := 2) hxc rfl
       have e3c := cell_at (i := 3) hxc rfl
       have e4c := cell_at (i := 4) hxc rfl
       have e5c := cell_at (i := 5) hxc rfl
       have e6c := cell_at (i := 6) hxc rfl
       clear hxc
       go_wp2_with fail
       refine (optionsOf_any a0 l0 c0 a1 l1 c1 a2 l2 c2 a3 l3 c3 a4 l4 c4 s al ll cl ts key p tm qx _ (HIS6.out _ hrk1) (HST6.out _ hrk1) HSM.out (HAN6.out _ hrk1) (HALL.out HR3.out) (by omega) HQ3.out HKD.out).mono ?_
       rintro e wq2 ⟨⟨pq, cq, rfl, hsq⟩, hq2⟩
       rw [← HOL.out] at hsq ⊢
       have hqk2 := hrk1.trans hq2
       have aqk2 := ark1.trans hq2
       clear e0c e1c e2c e3c e4c e5c e6c
       have HEQ2 := Lib.hid (equalInt_same _ _ cc2 pq _ cq ol wq2 (HS3.out _ aqk2) hsq (by omega))
       clear hsq
       go_wp2_with fail
       refine HEQ2.out.mono ?_
       rintro e wr2 ⟨rfl, hr2⟩
       have hrk2 := hqk2.trans hr2
       have ark2 := aqk2.trans hr2
       go_wp2_with fail
       refine (asked_any _ (HG6.out _ hrk2).g).mono ?_
       rintro e we ⟨rfl, hwe⟩
       go_wp2_with fail
       go_ret
       exact ⟨rfl, hend.out _ (hrk2.trans hwe)⟩
end Go.Proofs.YthhmgblcccbdaaaGreatDoor
