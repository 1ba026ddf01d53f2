/- scene: a setup with reviews. -/
import Derived.Test.YthhmgblcccbdaaaGreatDoorBv
import Derived.Test.YthhmgblcccbdaaaGreatDoorRy
import Derived.Test.YthhmgblcccbdaaaGreatDoorRt
import Derived.Test.YthhmgblcccbdaaaGreatDoorFs
import Derived.Test.YthhmgblcccbdaaaGreatDoorAj
import Derived.Test.YthhmgblcccbdaaaGreatDoorWi
namespace Go.Proofs.YthhmgblcccbdaaaGreatDoor
open Go.RowKit

/-- A setup with reviews, and its error. -/
def PScene (σ : St) (hi : Nat) (v : Value) (w : World) : Prop := ∃ (a0 a1 a2 a3 a4 : Option Addr) (l0 c0 l1 c1 l2 c2 l3 c3 l4 c4 : Nat) (s : Set7) (al : Option Addr) (ll cl : Nat) (xs : List Rev), v = .tuple #[.agg #[.slice a0 l0 c0, .slice a1 l1 c1, .slice a2 l2 c2, .slice a3 l3 c3, .slice a4 l4 c4, .int .i64 s.due, .int .i64 s.reply], .slice al ll cl, .int .i64 (revsF s xs)] ∧
  SetIs (fun k => k ≠ σ.b) w a0 l0 a1 l1 a2 l2 a3 l3 a4 l4 s ∧ (l0 ≤ 30 ∧ l1 ≤ 30 ∧ l2 ≤ 30 ∧ l3 ≤ 30 ∧ l4 ≤ 30) ∧ ll ≤ hi ∧ ll ≤ cl ∧ Sl RRev 7 (fun k => k ≠ σ.b) w al ll xs
set_option maxRecDepth 100000 in
set_option maxHeartbeats 12800000 in
theorem scene_any (σ : St) (n0 : Nat) (w0 : World) (M : Nat) (hs0 : Str σ w0 n0) (hn : n0 ≤ 4611686018426900000) (hM : M ≤ 12) (hg : ∀ wx, But σ.b w0 wx → Glob wx) :
    Calls Tryz.prog 7 #[.pointer (some ⟨σ.b, 0, none⟩), .int .i64 M] w0 (StPost σ n0 61000 w0 (PScene σ M)) := by
  have hl0 := hs0.lt
  have HG := Lib.hid hg
  clear hg
  have hk1 : All w0 (w0.alloc (.cells #[.slice none 0 0, .slice none 0 0, .slice none 0 0, .slice none 0 0, .slice none 0 0, .int .i64 0, .int .i64 0] 31)) := Kept.alloc _ _ _
  have hr1 := heap_at w0 (.cells #[.slice none 0 0, .slice none 0 0, .slice none 0 0, .slice none 0 0, .slice none 0 0, .int .i64 0, .int .i64 0] 31) _ rfl
  have hs1 := hs0.keep hk1
  have hw1 : But σ.b w0 _ := hk1.all
  obtain ⟨rb, hrb⟩ : ∃ b, b = w0.heap.size := ⟨_, rfl⟩
  have HRB := Lib.hid hrb
  rw [← hrb] at hr1
  have hrs : σ.b < rb := by omega
  have hrb0 : w0.heap.size ≤ rb := by omega
  have hrb1 : rb < (w0.alloc (.cells #[.slice none 0 0, .slice none 0 0, .slice none 0 0, .slice none 0 0, .slice none 0 0, .int .i64 0, .int .i64 0] 31)).heap.size := by rw [hrb]; simp
  have hz01 : w0.heap.size ≤ (w0.alloc (.cells #[.slice none 0 0, .slice none 0 0, .slice none 0 0, .slice none 0 0, .slice none 0 0, .int .i64 0, .int .i64 0] 31)).heap.size := by simp
  clear hrb
  go_enter Tryz.func7, Tryz.ntmps7
  go_upto_region 1 with fail
  simp only [← HRB.out]
  generalize w0.alloc (.cells #[.slice none 0 0, .slice none 0 0, .slice none 0 0, .slice none 0 0, .slice none 0 0, .int .i64 0, .int .i64 0] 31) = w1 at *
  clear hk1 hs0
  have hl1 := hs1.lt
  go_wp2_with fail
  refine (setup10_any σ n0 _ hs1 (by omega) (fun wx k => HG.out wx (hw1.trans k))).mono ?_
  rintro e w2 ⟨v, n2, rfl, ⟨a0, a1, a2, a3, a4, c0, c1, c2, c3, c4, s, rfl, his, hb0, hb1, hb2, hb3, hb4⟩, hA2, hB2, hs2, hk2⟩
  have hw2 := hw1.trans hk2
  have hr2 := hk2.heap hr1 (by omega)
  have hz12 := hk2.size
  clear hr1 hs1 hw1 hk2
  have hl2 := hs2.lt
  obtain ⟨l0, hle0⟩ : ∃ l, l = s.sheet.length := ⟨_, rfl⟩
  obtain ⟨l1, hle1⟩ : ∃ l, l = s.papers.length := ⟨_, rfl⟩
  obtain ⟨l2, hle2⟩ : ∃ l, l = s.pairs.length := ⟨_, rfl⟩
  obtain ⟨l3, hle3⟩ : ∃ l, l = s.barred.length := ⟨_, rfl⟩
  obtain ⟨l4, hle4⟩ : ∃ l, l = s.chairs.length := ⟨_, rfl⟩
  rw [← hle0, ← hle1, ← hle2, ← hle3, ← hle4] at his
  rw [← hle0] at hb0
  rw [← hle1] at hb1
  rw [← hle2] at hb2
  rw [← hle3] at hb3
  rw [← hle4] at hb4
  simp only [setC, ← hle0, ← hle1, ← hle2, ← hle3, ← hle4]
  clear hle0 hle1 hle2 hle3 hle4
  have hk3 : All w2 (w2.alloc (.cells #[.slice a0 l0 c0, .slice a1 l1 c1, .slice a2 l2 c2, .slice a3 l3 c3, .slice a4 l4 c4, .int .i64 s.due, .int .i64 s.reply] 31)) := Kept.alloc _ _ _
  have hb3' := heap_at w2 (.cells #[.slice a0 l0 c0, .slice a1 l1 c1, .slice a2 l2 c2, .slice a3 l3 c3, .slice a4 l4 c4, .int .i64 s.due, .int .i64 s.reply] 31) _ rfl
  obtain ⟨bb, hbb⟩ : ∃ b, b = w2.heap.size := ⟨_, rfl⟩
  have HBB := Lib.hid hbb
  rw [← hbb] at hb3'
  have hrbb : rb < bb := by omega
  have his3 := his.keep hk3.all
  have hs3 := hs2.keep hk3
  have hw3 := hw2.trans hk3.all
  have hr3 := hk3.heap hr2 trivial
  clear hbb his hs2 hw2 hr2 hk3
  go_upto_region 2 with fail
  simp only [← HBB.out]
  generalize w2.alloc (.cells #[.slice a0 l0 c0, .slice a1 l1 c1, .slice a2 l2 c2, .slice a3 l3 c3, .slice a4 l4 c4, .int .i64 s.due, .int .i64 s.reply] 31) = w3 at *
  have hl3 := hs3.lt
  have e0 := cell_at (i := 0) hb3' rfl
  have e1 := cell_at (i := 1) hb3' rfl
  have e2 := cell_at (i := 2) hb3' rfl
  have e3 := cell_at (i := 3) hb3' rfl
  have e4 := cell_at (i := 4) hb3' rfl
  have e5 := cell_at (i := 5) hb3' rfl
  have e6 := cell_at (i := 6) hb3' rfl
  go_wp2_with fail
  refine (reviews_any σ n2 _ a0 l0 c0 a1 l1 c1 a2 l2 c2 a3 l3 c3 a4 l4 c4 s M hs3 (by omega) his3 (by omega) (by omega) hM (fun wx k => HG.out wx (hw3.trans k))).mono ?_
  rintro e w4 ⟨v, n4, rfl, ⟨xs, hxl, hac⟩, hA4, hB4, hs4, hk4⟩
  have hw4 := hw3.trans hk4
  have his4 := his3.keep hk4
  have hr4 := hk4.heap hr3 (by omega)
  have hb4' := hk4.heap hb3' (by omega)
  clear hs3 his3 hr3 hb3' hw3 e0 e1 e2 e3 e4 e5 e6
  obtain ⟨al, cl, rfl, hcl⟩ := hac.form
  have hsx : Sl RRev 7 (fun k => k ≠ σ.b) w4 al xs.length xs := by
    obtain ⟨al', cl', he, hsl⟩ := hac.sl RRev.ok (by decide) (G := fun k => k ≠ σ.b) (fun _ h => h) (fun j hj => by have := (hac.lt j hj).1; omega)
    injection he with h1 h2 h3
    subst h1
    exact hsl
  have hxty := hac.notType hr4 (by decide)
  obtain ⟨ll, hll⟩ : ∃ l, l = xs.length := ⟨_, rfl⟩
  rw [← hll] at hcl hsx hxl ⊢
  clear hll hac hk4
  have HF := Lib.hid (fun (wx : World) (k : All w4 wx) => reviewsFault_any a0 l0 c0 a1 l1 c1 a2 l2 c2 a3 l3 c3 a4 l4 c4 s al ll cl xs wx ((his4.mono (fun _ _ => trivial)).keep k) ((hsx.mono RRev.ok (fun _ _ => trivial)).keep RRev.ok k) (by omega) hcl (HG.out wx (hw4.trans k.all)))
  obtain ⟨ef, hef⟩ : ∃ z, z = revsF s xs := ⟨_, rfl⟩
  have HEF := Lib.hid hef
  rw [← hef] at HF
  clear hef
  have e0 := cell_at (i := 0) hb4' rfl
  have e1 := cell_at (i := 1) hb4' rfl
  have e2 := cell_at (i := 2) hb4' rfl
  have e3 := cell_at (i := 3) hb4' rfl
  have e4 := cell_at (i := 4) hb4' rfl
  have e5 := cell_at (i := 5) hb4' rfl
  have e6 := cell_at (i := 6) hb4' rfl
  have HB4 := Lib.hid (fun (wx : World) (k : All w4 wx) => k.heap hb4' trivial)
  have HR4 := Lib.hid (fun (wx : World) (k : All w4 wx) => k.heap hr4 trivial)
  have y0 := cell_at (i := 0) hr4 rfl
  have y1 := cell_at (i := 1) hr4 rfl
  have y2 := cell_at (i := 2) hr4 rfl
  have y3 := cell_at (i := 3) hr4 rfl
  have y4 := cell_at (i := 4) hr4 rfl
  have y5 := cell_at (i := 5) hr4 rfl
  have y6 := cell_at (i := 6) hr4 rfl
  have u0 := frozen_at (i := 0) hr4
  have u1 := frozen_at (i := 1) hr4
  have u2 := frozen_at (i := 2) hr4
  have u3 := frozen_at (i := 3) hr4
  have u4 := frozen_at (i := 4) hr4
  have u5 := frozen_at (i := 5) hr4
  have u6 := frozen_at (i := 6) hr4
  go_wp2_with fail
  go_region_law (first | (go_simp; go_at_call 44; refine (HF.out _ (by repeat (first | exact Kept.refl _ _ | refine Kept.then_drew ?_ | refine Kept.then_drewN ?_ _ | refine Kept.then_alloc ?_ _))).mono ?_; rintro e w5 ⟨rfl, hw5'⟩; have hw5 : All w4 w5 := Kept.trans ((by repeat (first | exact Kept.refl _ _ | refine Kept.then_drew ?_ | refine Kept.then_drewN ?_ _ | refine Kept.then_alloc ?_ _)) : All w4 _) hw5'; have hbX := HB4.out w5 hw5; have hrX := HR4.out w5 hw5; have f0 := cell_at (i := 0) hbX rfl; have z0 := cell_at (i := 0) hrX rfl; have x0 := frozen_at (i := 0) hrX; have f1 := cell_at (i := 1) hbX rfl; have z1 := cell_at (i := 1) hrX rfl; have x1 := frozen_at (i := 1) hrX; have f2 := cell_at (i := 2) hbX rfl; have z2 := cell_at (i := 2) hrX rfl; have x2 := frozen_at (i := 2) hrX; have f3 := cell_at (i := 3) hbX rfl; have z3 := cell_at (i := 3) hrX rfl; have x3 := frozen_at (i := 3) hrX; have f4 := cell_at (i := 4) hbX rfl; have z4 := cell_at (i := 4) hrX rfl; have x4 := frozen_at (i := 4) hrX; have f5 := cell_at (i := 5) hbX rfl; have z5 := cell_at (i := 5) hrX rfl; have x5 := frozen_at (i := 5) hrX; have f6 := cell_at (i := 6) hbX rfl; have z6 := cell_at (i := 6) hrX rfl; have x6 := frozen_at (i := 6) hrX))
  all_goals
    have hke : Kept (fun k => k ≠ rb) w5 (((((((w5.setCell ⟨rb, 0, none⟩ (.slice a0 l0 c0)).setCell ⟨rb, 1, none⟩ (.slice a1 l1 c1)).setCell ⟨rb, 2, none⟩ (.slice a2 l2 c2)).setCell ⟨rb, 3, none⟩ (.slice a3 l3 c3)).setCell ⟨rb, 4, none⟩ (.slice a4 l4 c4)).setCell ⟨rb, 5, none⟩ (.int .i64 s.due)).setCell ⟨rb, 6, none⟩ (.int .i64 s.reply)) := (((((((Kept.refl _ _).then_setCell _ _ (fun h => h rfl)).then_setCell _ _ (fun h => h rfl)).then_setCell _ _ (fun h => h rfl)).then_setCell _ _ (fun h => h rfl)).then_setCell _ _ (fun h => h rfl)).then_setCell _ _ (fun h => h rfl)).then_setCell _ _ (fun h => h rfl)
    have hrn : NoStr w5 rb := NoStr.of hrX (by intro v hv z; simp at hv; rcases hv with rfl | rfl | rfl <;> exact fun h => by cases h)
    have hfi := Lib.hid ((his4.keep hw5.all).past hrn hke)
    have hfx := Lib.hid ((hsx.keep RRev.ok hw5.all).past RRev.isOff RRev.ok hrn hke)
    have hfs := Lib.hid ((((((((hs4.keep hw5).set ⟨rb, 0, none⟩ (.slice a0 l0 c0) (by dsimp only; omega)).set ⟨rb, 1, none⟩ (.slice a1 l1 c1) (by dsimp only; omega)).set ⟨rb, 2, none⟩ (.slice a2 l2 c2) (by dsimp only; omega)).set ⟨rb, 3, none⟩ (.slice a3 l3 c3) (by dsimp only; omega)).set ⟨rb, 4, none⟩ (.slice a4 l4 c4) (by dsimp only; omega)).set ⟨rb, 5, none⟩ (.int .i64 s.due) (by dsimp only; omega)).set ⟨rb, 6, none⟩ (.int .i64 s.reply) (by dsimp only; omega))
    have hfw := Lib.hid ((((((((hw4.trans hw5.all).then_setNew ⟨rb, 0, none⟩ (.slice a0 l0 c0) (by dsimp only; omega)).then_setNew ⟨rb, 1, none⟩ (.slice a1 l1 c1) (by dsimp only; omega)).then_setNew ⟨rb, 2, none⟩ (.slice a2 l2 c2) (by dsimp only; omega)).then_setNew ⟨rb, 3, none⟩ (.slice a3 l3 c3) (by dsimp only; omega)).then_setNew ⟨rb, 4, none⟩ (.slice a4 l4 c4) (by dsimp only; omega)).then_setNew ⟨rb, 5, none⟩ (.int .i64 s.due) (by dsimp only; omega)).then_setNew ⟨rb, 6, none⟩ (.int .i64 s.reply) (by dsimp only; omega))
    have j0 := heap_setCell_at w5 rb 0 (.slice a0 l0 c0) _ _ _ hrX
    have j1 := heap_setCell_at (w5.setCell ⟨rb, 0, none⟩ (.slice a0 l0 c0)) rb 1 (.slice a1 l1 c1) _ _ _ j0
    have j2 := heap_setCell_at ((w5.setCell ⟨rb, 0, none⟩ (.slice a0 l0 c0)).setCell ⟨rb, 1, none⟩ (.slice a1 l1 c1)) rb 2 (.slice a2 l2 c2) _ _ _ j1
    have j3 := heap_setCell_at (((w5.setCell ⟨rb, 0, none⟩ (.slice a0 l0 c0)).setCell ⟨rb, 1, none⟩ (.slice a1 l1 c1)).setCell ⟨rb, 2, none⟩ (.slice a2 l2 c2)) rb 3 (.slice a3 l3 c3) _ _ _ j2
    have j4 := heap_setCell_at ((((w5.setCell ⟨rb, 0, none⟩ (.slice a0 l0 c0)).setCell ⟨rb, 1, none⟩ (.slice a1 l1 c1)).setCell ⟨rb, 2, none⟩ (.slice a2 l2 c2)).setCell ⟨rb, 3, none⟩ (.slice a3 l3 c3)) rb 4 (.slice a4 l4 c4) _ _ _ j3
    have j5 := heap_setCell_at (((((w5.setCell ⟨rb, 0, none⟩ (.slice a0 l0 c0)).setCell ⟨rb, 1, none⟩ (.slice a1 l1 c1)).setCell ⟨rb, 2, none⟩ (.slice a2 l2 c2)).setCell ⟨rb, 3, none⟩ (.slice a3 l3 c3)).setCell ⟨rb, 4, none⟩ (.slice a4 l4 c4)) rb 5 (.int .i64 s.due) _ _ _ j4
    have j6 := heap_setCell_at ((((((w5.setCell ⟨rb, 0, none⟩ (.slice a0 l0 c0)).setCell ⟨rb, 1, none⟩ (.slice a1 l1 c1)).setCell ⟨rb, 2, none⟩ (.slice a2 l2 c2)).setCell ⟨rb, 3, none⟩ (.slice a3 l3 c3)).setCell ⟨rb, 4, none⟩ (.slice a4 l4 c4)).setCell ⟨rb, 5, none⟩ (.int .i64 s.due)) rb 6 (.int .i64 s.reply) _ _ _ j5
    have hfin : (((((((w5.setCell ⟨rb, 0, none⟩ (.slice a0 l0 c0)).setCell ⟨rb, 1, none⟩ (.slice a1 l1 c1)).setCell ⟨rb, 2, none⟩ (.slice a2 l2 c2)).setCell ⟨rb, 3, none⟩ (.slice a3 l3 c3)).setCell ⟨rb, 4, none⟩ (.slice a4 l4 c4)).setCell ⟨rb, 5, none⟩ (.int .i64 s.due)).setCell ⟨rb, 6, none⟩ (.int .i64 s.reply)).heap[rb]? = some (.cells #[.slice a0 l0 c0, .slice a1 l1 c1, .slice a2 l2 c2, .slice a3 l3 c3, .slice a4 l4 c4, .int .i64 s.due, .int .i64 s.reply] 31 (0, 0)) := by simpa using j6
    have q0 := cell_at (i := 0) hfin rfl
    have q1 := cell_at (i := 1) hfin rfl
    have q2 := cell_at (i := 2) hfin rfl
    have q3 := cell_at (i := 3) hfin rfl
    have q4 := cell_at (i := 4) hfin rfl
    have q5 := cell_at (i := 5) hfin rfl
    have q6 := cell_at (i := 6) hfin rfl
    clear hke hfin hrn hbX hrX j0 j1 j2 j3 j4 j5 j6
    go_wp2_with fail
    refine bodyPost_ret (v := .tuple #[.agg #[.slice a0 l0 c0, .slice a1 l1 c1, .slice a2 l2 c2, .slice a3 l3 c3, .slice a4 l4 c4, .int .i64 s.due, .int .i64 s.reply], .slice al ll cl, .int .i64 ef]) ?_ rfl ⟨_, n4, rfl, ⟨a0, a1, a2, a3, a4, l0, c0, l1, c1, l2, c2, l3, c3, l4, c4, s, al, ll, cl, xs, by rw [HEF.out], hfi.out, ⟨hb0, hb1, hb2, hb3, hb4⟩, hxl, hcl, hfx.out⟩, by omega, by omega, hfs.out, hfw.out⟩
    simp [results, Tryz.results7, go_sem, q0, q1, q2, q3, q4, q5, q6]
end Go.Proofs.YthhmgblcccbdaaaGreatDoor

/- The law ReviewStands, walked. -/
namespace Go.Proofs.YthhmgblcccbdaaaGreatDoor
open Go.RowKit

theorem Glob.ltS {w : World} (h : Glob w) : 1 < w.heap.size ∧ 2 < w.heap.size ∧ 0 < w.heap.size := by
  obtain ⟨m, hm⟩ := h.most
  exact ⟨lt_of_cell (h.tabs.1 0 (by decide)), lt_of_cell (h.tabs.2 0 (by decide)).1, lt_of_cell hm⟩
theorem StdV.gen {er : Int} {xs : List Std3} {e : Ending} {w' : World} (h : StdV er xs e w') : ∃ v, e = .returned (.tuple #[v, .int .i64 er]) ∧ (er = 0 → ∃ (p : Option Addr) (c : Nat), v = .slice p xs.length c ∧ Sl RStd 3 (fun _ => True) w' p xs.length xs) ∧ (er ≠ 0 → v = .slice none 0 0) := by
  by_cases h0 : er = 0
  · obtain ⟨p, c, he, hs⟩ := h.1 h0
    exact ⟨_, by rw [he, h0], fun _ => ⟨p, c, rfl, hs⟩, fun h => absurd h0 h⟩
  · exact ⟨_, h.2 h0, fun h => absurd h h0, fun _ => rfl⟩
theorem NudV.gen {er : Int} {xs : List Pair2} {e : Ending} {w' : World} (h : NudV er xs e w') : ∃ v, e = .returned (.tuple #[v, .int .i64 er]) ∧ (er = 0 → ∃ (p : Option Addr) (c : Nat), v = .slice p xs.length c ∧ Sl RPair 2 (fun _ => True) w' p xs.length xs) ∧ (er ≠ 0 → v = .slice none 0 0) := by
  by_cases h0 : er = 0
  · obtain ⟨p, c, he, hs⟩ := h.1 h0
    exact ⟨_, by rw [he, h0], fun _ => ⟨p, c, rfl, hs⟩, fun h => absurd h0 h⟩
  · exact ⟨_, h.2 h0, fun h => absurd h h0, fun _ => rfl⟩
/-- The fault of Nudges, by parts. -/
def nudT (er : Int) (n : Nat) (b : Bool) : Int := if er ≠ 0 then er else if 10 < n then 2 else if b = true then 1 else 0
theorem nudE_T (s : Set7) (xs : List Rev) (ds : List Int) (tm : Int) : nudE s xs ds tm = nudT (atE s xs tm) ds.length (ds.any badD) := rfl
theorem nudT_start (er : Int) (n : Nat) : firstV [er, if decide ((10 : Int) < (n : Int)) = true then 2 else 0] = nudT er n false := by
  rw [nudT, firstV, firstV, firstV]
  by_cases h1 : er ≠ 0
  · rw [if_pos h1, if_pos h1]
  · rw [if_neg h1, if_neg h1]
    by_cases h2 : 10 < n
    · rw [if_pos h2, if_pos (by simp; omega)]; simp; omega
    · rw [if_neg h2, if_neg (by simp; omega)]; simp
theorem nudT_step (er : Int) (n : Nat) (b c : Bool) : firstV [nudT er n b, if c = true then 1 else 0] = nudT er n (b || c) := by
  simp only [nudT, firstV]
  by_cases h1 : er ≠ 0
  · simp only [if_pos h1]
  · simp only [if_neg h1]
    by_cases h2 : 10 < n
    · simp [h2]
    · simp only [if_neg h2]
      cases b <;> cases c <;> simp
theorem nudT_zero {er : Int} {n : Nat} {b : Bool} (h : nudT er n b = 0) : er = 0 ∧ b = false := by
  rw [nudT] at h
  by_cases h1 : er ≠ 0
  · rw [if_pos h1] at h; exact absurd h h1
  · rw [if_neg h1] at h
    refine ⟨Classical.not_not.1 h1, ?_⟩
    cases b with
    | false => rfl
    | true => by_cases h2 : 10 < n <;> simp [h2] at h
theorem nudT_bad {er : Int} {n : Nat} {b : Bool} (h : er ≠ 0) : nudT er n b = er := by rw [nudT, if_pos h]
theorem days_ok {ds : List Int} (h : ds.any badD = false) : ∀ d ∈ ds, -4000 ≤ d ∧ d ≤ 4000 := by
  intro d hd
  have h1 := List.any_eq_false.1 h d hd
  simp [badD] at h1
  omega
theorem intSl {B : Nat} {w : World} {v : Value} {zs : List Int} {T : TypeId} (h : Acc RInt 1 T (fun _ => False) B w v zs) : ∃ (p : Option Addr) (c : Nat), v = .slice p zs.length c ∧ Sl RInt 1 (fun _ => True) w p zs.length zs := by
  obtain ⟨p, c, hv, h1⟩ := h.sl RInt.ok (by decide) (G := fun _ => True) (fun _ h => h.elim) (fun _ _ => trivial)
  exact ⟨p, c, hv, h1⟩
set_option maxRecDepth 100000 in
set_option maxHeartbeats 12800000 in
theorem reviewStands_walk (a : Option Addr) (len cap : Nat) (w : World) (h : IsRow w a len cap) (hG : Glob w) (hP : Pow w) :
    Calls Tryz.prog 5 #[.slice a len cap] w fun e w' => e = .returned (.bool true) ∧ Below w.heap.size w w' := by
  have hst := h.start
  obtain ⟨σ, hσ⟩ : ∃ σ : St, σ = ⟨w.heap.size, a, len, cap⟩ := ⟨_, rfl⟩
  have hσb : σ.b = w.heap.size := by rw [hσ]
  rw [← hσ] at hst
  have hptr : (Value.pointer (some ⟨w.heap.size, 0, none⟩)) = Value.pointer (some ⟨σ.b, 0, none⟩) := by rw [hσb]
  have Hptr := Lib.hid hptr
  have Hσ := Lib.hid hσb
  have hk0 : But σ.b w (w.alloc (.cells #[.slice a len cap, .int .i64 0] 25)) := Kept.alloc _ _ _
  have hgl := hG.ltS
  have hpl := hP.lt
  have HG := Lib.hid (fun (wx : World) (k : But σ.b w wx) => (⟨hG.kept k (by omega) (by omega) (by omega), hP.kept k (by omega)⟩ : GlobP wx))
  clear hσ hσb hptr h hG hgl hP hpl
  go_enter Tryz.func5, Tryz.ntmps5
  go_upto_region 2 with fail
  simp only [Hptr.out]
  generalize w.alloc (.cells #[.slice a len cap, .int .i64 0] 25) = w0 at *
  have hl0 := hst.lt
  go_wp2_with fail
  refine (range_any σ 0 0 8 _ hst (by omega) (by omega) (by omega) (by omega)).mono ?_
  rintro e w1 ⟨v, n1, rfl, ⟨r, rfl, hr1, hr2⟩, -, hn1, hs1, hb1⟩
  obtain ⟨M, rfl⟩ := Int.eq_ofNat_of_zero_le hr1
  have hM : M ≤ 8 := by omega
  have hw1 := hk0.trans hb1
  clear hr1 hr2 hst hb1 hk0
  go_wp2_with fail
  refine (scene_any σ n1 _ M hs1 (by omega) (by omega) (fun wx k => (HG.out wx (hw1.trans k)).g)).mono ?_
  rintro e w2 ⟨v, n2, rfl, ⟨a0, a1, a2, a3, a4, l0, c0, l1, c1, l2, c2, l3, c3, l4, c4, s, al, ll, cl, xs, rfl, his, ⟨hb0, hb1, hb2, hb3, hb4⟩, hll, hcl, hsx⟩, -, hn2, hs2, hk2⟩
  have hw2 := hw1.trans hk2
  have hl2' := hs2.lt
  clear hs1 hw1 hk2
  have hk3 : All w2 (w2.alloc (.cells #[.slice a0 l0 c0, .slice a1 l1 c1, .slice a2 l2 c2, .slice a3 l3 c3, .slice a4 l4 c4, .int .i64 s.due, .int .i64 s.reply] 31)) := Kept.alloc _ _ _
  have hx3 := heap_at w2 (.cells #[.slice a0 l0 c0, .slice a1 l1 c1, .slice a2 l2 c2, .slice a3 l3 c3, .slice a4 l4 c4, .int .i64 s.due, .int .i64 s.reply] 31) _ rfl
  obtain ⟨xb, hxb⟩ : ∃ b, b = w2.heap.size := ⟨_, rfl⟩
  have HXB := Lib.hid hxb
  rw [← hxb] at hx3
  have hxs : σ.b < xb := by omega
  have his3 := his.keep hk3.all
  have hsx3 := hsx.keep RRev.ok hk3.all
  have hs3 := hs2.keep hk3
  have hw3 := hw2.trans hk3.all
  clear hxb his hsx hs2 hw2 hk3
  obtain ⟨ef, hef⟩ : ∃ z, z = revsF s xs := ⟨_, rfl⟩
  have HEF := Lib.hid hef
  rw [← hef]
  clear hef
  go_upto_region 3 with fail
  simp only [← HXB.out]
  generalize w2.alloc (.cells #[.slice a0 l0 c0, .slice a1 l1 c1, .slice a2 l2 c2, .slice a3 l3 c3, .slice a4 l4 c4, .int .i64 s.due, .int .i64 s.reply] 31) = w3 at *
  have hl3 := hs3.lt
  go_wp2_with fail
  refine (moment10_any σ n2 _ hs3 (by omega)).mono ?_
  rintro e w4 ⟨v, n4, rfl, ⟨t0, rfl, -, -⟩, -, hn4, hs4, hk4⟩
  have hl4 := hs4.lt
  go_wp2_with fail
  refine (pick_any σ n4 _ 5 5 [t0, 0, 1440, 2880, 1560] _ (hs4.keep (Kept.alloc _ _ _)) (by omega) (Sl.lit_ints _ (heap_at w4 _ _ rfl) rfl (by omega)) (by omega) (by omega)).mono ?_
  rintro e w5 ⟨v, n5, rfl, ⟨tm, rfl, -⟩, -, hn5, hs5, hk5'⟩
  have hl5 := hs5.lt
  go_wp2_with fail
  refine (pick_any σ n5 _ 5 5 [0, 1, 2, 3, 11] _ (hs5.keep (Kept.alloc _ _ _)) (by omega) (Sl.lit_ints _ (heap_at w5 _ _ rfl) rfl (by omega)) (by omega) (by omega)).mono ?_
  rintro e w6 ⟨v, n6, rfl, ⟨m', rfl, hm'⟩, -, hn6, hs6, hk6'⟩
  have hl6 := hs6.lt
  have hm2 : 0 ≤ m' ∧ m' ≤ 11 := by simp at hm'; omega
  obtain ⟨hm3, hm4⟩ := hm2
  obtain ⟨m, rfl⟩ := Int.eq_ofNat_of_zero_le hm3
  have hm : m ≤ 11 := by omega
  have hk36 : But σ.b w3 w6 := hk4.trans (((Kept.all (Kept.alloc _ _ _)).trans hk5').trans ((Kept.all (Kept.alloc _ _ _)).trans hk6'))
  have hw6 := hw3.trans hk36
  have his6 := his3.keep hk36
  have hsx6 := hsx3.keep RRev.ok hk36
  have hx6 := hk36.heap hx3 (by omega)
  clear hm' hm3 hm4 hk4 hk5' hk6' hs3 hs4 hs5 his3 hsx3 hx3 hw3 hk36
  go_wp2_with fail
  go_loopw [8, 36] (fun o i wr => ∃ (k : Nat) (ds : List Int) (n' : Nat), k ≤ m ∧ i = .int .i64 k ∧ ds.length = k ∧ Acc RInt 1 3 (fun _ => False) w6.heap.size wr o ds ∧ Str σ wr n' ∧ n' ≤ n6 + k ∧ But σ.b w6 wr) (fun _ i _ => m - (intOf i).toNat)
  case atStart => exact ⟨0, [], n6, Nat.zero_le _, rfl, rfl, Acc.nil _ _ _ _ _ _, hs6, by omega, Kept.refl _ _⟩
  case round =>
    clear hs6
    obtain ⟨k, ds, n7, hk, rfl, hdl, hacc, hs7, hn7, hwr⟩ := hrel
    obtain ⟨wo, rfl⟩ : ∃ wo : World, wo = wr := ⟨_, rfl⟩
    have hl7 := hs7.lt
    by_cases hlt : k < m
    case pos =>
      have hdb : ds.length ≤ 11 := by omega
      have HDK := Lib.hid hdl
      clear hdl
      obtain ⟨oa, oc, rfl, hoc⟩ := hacc.form
      go_wp2_with fail
      refine (pick_any σ n7 _ 7 7 [0, 1, 1, -1, 2, 4000, 4001] _ (hs7.keep (Kept.alloc _ _ _)) (by omega) (Sl.lit_ints _ (heap_at wo _ _ rfl) rfl (by omega)) (by omega) (by omega)).mono ?_
      rintro e w8 ⟨v, n8, rfl, ⟨d, rfl, -⟩, -, hn8, hs8, hk8'⟩
      have hwz := hwr.size
      have hacc8 := (hacc.keepAll RInt.ok (Kept.alloc _ _ _)).keep RInt.ok hk8' (fun _ h => h.elim) (fun k hk => by have := (hacc.lt k hk).1; omega)
      have hk8 : But σ.b w6 w8 := hwr.trans ((Kept.all (Kept.alloc _ _ _)).trans hk8')
      have hz8 := hk8.size
      clear hacc hs7 hwr hk8'
      go_wp2_with (at_builtin; refine wp_append1 RInt.ok _ rfl _ _ 22 rfl w6.heap.size 3 (.int .i64 0) 1 8 Tryz.underlying22 (by kernel_rfl) rfl (by decide) (fun _ => False) _ ds rfl (hacc8.keepAll RInt.ok (Kept.alloc _ _ _)) ⟨_, 0, none⟩ 1 [.int .i64 d] rfl rfl (World.news_of_block (cs := #[.int .i64 d]) (heap_at _ _ _ (by simp))) (by simp [Value.oneCell']) d rfl (by omega) (by decide) (by simp; omega) ?_)
      intro p9 c9 w9 hacc9 hg9 _
      have hsw := hs8.lt
      have hkS : Kept (fun k => k ≤ σ.b) w8 w9 := ((Kept.refl _ _).then_alloc _).grown hg9 (fun j hj => Or.inr (by have := (hacc8.lt j hj).1; omega))
      have hs9 := hs8.kept hkS (fun _ h => h)
      have hk9 : But σ.b w6 w9 := (hk8.then_alloc _).grown hg9 (fun j hj => Or.inl (hacc8.lt j hj).1)
      clear hacc8 hg9 hs8 hk8 hkS
      go_wp2_with fail
      go_roundw
      case rel => exact ⟨k + 1, _, n8, by omega, by go_num, by have := HDK.out; simp; omega, hacc9, hs9, by omega, hk9⟩
      case measure => simp [intOf]; omega
    case neg =>
      have hkm : k = m := by omega
      subst hkm
      have hd9 : decide ((k : Int) < (k : Int)) = false := by simp
      obtain ⟨da, dc, rfl, hsd⟩ := intSl hacc
      rw [hdl] at hsd ⊢
      have his7 := (his6.keep hwr).mono (fun _ _ => trivial)
      have hsx7 := (hsx6.keep RRev.ok hwr).mono RRev.ok (fun _ _ => trivial)
      have hx7 := hwr.heap hx6 (by omega)
      have hw7 := hw6.trans hwr
      have HG7 := Lib.hid (fun (wy : World) (k : All wo wy) => HG.out wy (hw7.trans k.all))
      have hend := Lib.hid (show ∀ wy, All wo wy → Below w.heap.size w wy from fun wy k => (hw7.trans k.all).below (Nat.le_refl _) (fun k hk => by have := Hσ.out; omega))
      have HX := Lib.hid (fun (wy : World) (k : All wo wy) => k.heap hx7 trivial)
      have HIS := Lib.hid (fun (wy : World) (k : All wo wy) => his7.keep k)
      have HSX := Lib.hid (fun (wy : World) (k : All wo wy) => hsx7.keep RRev.ok k)
      have HSD := Lib.hid (fun (wy : World) (k : All wo wy) => hsd.keep RInt.ok k)
      obtain ⟨ts, -, hst7, -⟩ := hsx7.raws
      have HST := Lib.hid (fun (wy : World) (k : All wo wy) => hst7.keep RRaw.ok k)
      have HDL := Lib.hid hdl
      have hnp : s.pairs.length ≤ 1000000 := by have := his7.pairs.len; have := his7.n2; omega
      have HSS := Lib.hid (stands_any a0 l0 c0 a1 l1 c1 a2 l2 c2 a3 l3 c3 a4 l4 c4 s al ll cl xs ts tm wo his7 hsx7 hst7 (by omega) hcl (HG7.out wo (Kept.refl _ _)).g)
      have HNU := Lib.hid (fun (wy : World) (k : All wo wy) => nudges_any a0 l0 c0 a1 l1 c1 a2 l2 c2 a3 l3 c3 a4 l4 c4 s al ll cl xs ts da _ dc ds tm wy (HIS.out _ k) (HSX.out _ k) (HST.out _ k) (by omega) hcl (HSD.out _ k) (by omega) (HG7.out wy k).g)
      obtain ⟨er, her⟩ : ∃ z, z = atE s xs tm := ⟨_, rfl⟩
      have HER := Lib.hid her
      obtain ⟨ne, hne⟩ : ∃ z, z = nudE s xs ds tm := ⟨_, rfl⟩
      have HNE := Lib.hid (show ne = nudT er k (ds.any badD) from by rw [hne, nudE_T, ← her, hdl])
      rw [← her] at HSS
      rw [← hne] at HNU
      obtain ⟨mf, hmf⟩ : ∃ z : Int, z = if 0 ≤ tm ∧ tm < 5761440 then 0 else 1 := ⟨_, rfl⟩
      have HMF := Lib.hid hmf
      have HFV := Lib.hid (show firstV [ef, mf] = er from by rw [her, atE, hmf, HEF.out])
      obtain ⟨sl, hsl⟩ : ∃ z, z = standsF s ts tm s.pairs := ⟨_, rfl⟩
      have HSLE := Lib.hid hsl
      have HSLN := Lib.hid (show sl.length = s.pairs.length from by rw [hsl, standsF_len])
      rw [← hsl] at HSS
      obtain ⟨nl, hnl⟩ : ∃ z, z = nudF s ts ds tm := ⟨_, rfl⟩
      have HNLE := Lib.hid hnl
      have HNLN := Lib.hid (show nl.length ≤ s.pairs.length from by rw [hnl, nudF_eq]; exact nudB_len _ _ _ _ _)
      rw [← hnl] at HNU
      have e0 := cell_at (i := 0) hx7 rfl
      have e1 := cell_at (i := 1) hx7 rfl
      have e2 := cell_at (i := 2) hx7 rfl
      have e3 := cell_at (i := 3) hx7 rfl
      have e4 := cell_at (i := 4) hx7 rfl
      have e5 := cell_at (i := 5) hx7 rfl
      have e6 := cell_at (i := 6) hx7 rfl
      clear her hne hmf hsl hnl hx7 hx6 his6 his7 hsx6 hsx7 hst7 hsd hacc hw6 hw7 hs7 hwr
      go_wp2_with fail
      refine HSS.out.mono ?_
      rintro e w8 ⟨hv, hw8⟩
      obtain ⟨v9, rfl, hv9a, hv9b⟩ := hv.gen
      have HA1 := Lib.hid hv9a
      have HA2 := Lib.hid hv9b
      clear hv hv9a hv9b e0 e1 e2 e3 e4 e5 e6
      have hx8 := HX.out _ hw8
      have e0 := cell_at (i := 0) hx8 rfl
      have e1 := cell_at (i := 1) hx8 rfl
      have e2 := cell_at (i := 2) hx8 rfl
      have e3 := cell_at (i := 3) hx8 rfl
      have e4 := cell_at (i := 4) hx8 rfl
      have e5 := cell_at (i := 5) hx8 rfl
      have e6 := cell_at (i := 6) hx8 rfl
      clear hx8
      go_wp2_with fail
      refine (HNU.out _ hw8).mono ?_
      rintro e w9 ⟨hv, hw9'⟩
      obtain ⟨v11, rfl, hv9a, hv9b⟩ := hv.gen
      have HB1 := Lib.hid hv9a
      have HB2 := Lib.hid hv9b
      have hw9 := hw8.trans hw9'
      have HK89 := Lib.hid hw9'
      clear hv hv9a hv9b hw9' hw8 e0 e1 e2 e3 e4 e5 e6
      go_wp2_with fail
      refine (momentFault_any tm _).mono ?_
      rintro e w' ⟨rfl, rfl⟩
      rw [← HMF.out]
      go_wp2_with fail
      refine (errsV_any (some ⟨w9.heap.size, 0, none⟩) 2 2 [ef, mf] _ (Sl.lit_ints _ (heap_at _ _ _ rfl) rfl trivial) (by omega)).mono ?_
      rintro e w10 ⟨rfl, hh⟩
      have hk10 : All w9 w10 := by rw [← hh]; exact Kept.alloc _ _ _
      have hw10 := hw9.trans hk10
      clear hh
      rw [HFV.out]
      go_wp2_with fail
      refine (whenV_any _ _ _).mono ?_
      rintro e w' ⟨rfl, rfl⟩
      obtain ⟨tl, htl⟩ : ∃ z : Int, z = if decide ((10 : Int) < (k : Int)) = true then 2 else 0 := ⟨_, rfl⟩
      have HTL := Lib.hid (show firstV [er, tl] = nudT er k false from by rw [htl, nudT_start])
      rw [← htl]
      clear htl
      go_wp2_with fail
      refine (errsV_any (some ⟨w10.heap.size, 0, none⟩) 2 2 [er, tl] _ (Sl.lit_ints _ (heap_at _ _ _ rfl) rfl trivial) (by omega)).mono ?_
      rintro e w11 ⟨rfl, hh⟩
      have hk1a : All w10 w11 := by rw [← hh]; exact Kept.alloc _ _ _
      have hw11 := hw10.trans hk1a
      have hk11 := hk10.trans hk1a
      clear hh hk1a
      rw [HTL.out]
      have HK91 := Lib.hid hk11
      clear hw10 hk10 hk11 hw9 hdl hlt hk hd9
      go_wp2_with fail
      go_loopw [14, 74] (fun z i wr => ∃ q : Nat, q ≤ k ∧ i = .int .i64 q ∧ z = .int .i64 (nudT er k ((ds.take q).any badD)) ∧ All w11 wr) (fun _ i _ => k - (intOf i).toNat)
      case atStart => exact ⟨0, Nat.zero_le _, rfl, rfl, Kept.refl _ _⟩
      case round =>
        obtain ⟨q, hq, rfl, rfl, hwr⟩ := hrel
        obtain ⟨wp, rfl⟩ : ∃ wp : World, wp = wr := ⟨_, rfl⟩
        by_cases hlt2 : q < k
        case pos =>
          obtain ⟨b, off, d, ha, -, c0, -, -, htk⟩ := (HSD.out wp (hw11.trans hwr)).atInt hlt2
          have HTK := Lib.hid htk
          subst ha
          obtain ⟨tq, htq⟩ : ∃ z, z = nudT er k ((ds.take q).any badD) := ⟨_, rfl⟩
          rw [← htq]
          obtain ⟨tl, htl⟩ : ∃ z : Int, z = if badD d = true then 1 else 0 := ⟨_, rfl⟩
          have HT3 := Lib.hid htl
          have HN2 := Lib.hid (show nudT er k ((ds.take (q + 1)).any badD) = firstV [tq, tl] from by rw [htq, htl, nudT_step, HTK.out, List.any_append]; simp)
          clear htk htq htl
          obtain ⟨x1, hx1⟩ : ∃ z, z = decide (d < -4000) := ⟨_, rfl⟩
          obtain ⟨x2, hx2⟩ : ∃ z, z = decide (4000 < d) := ⟨_, rfl⟩
          have hd1 := hx1.symm
          have hd2 := hx2.symm
          have HBD := Lib.hid (show badD d = (x1 || x2) from by rw [badD, hx1, hx2, Bool.decide_or])
          clear hx1 hx2
          cases x1 with
          | true =>
            clear hd2
            go_wp2_with fail
            refine (whenV_any _ _ _).mono ?_
            rintro e w' ⟨rfl, rfl⟩
            rw [show (if true = true then (1 : Int) else 0) = tl from by rw [HT3.out, HBD.out]; simp]
            go_wp2_with fail
            refine (errsV_any (some ⟨wp.heap.size, 0, none⟩) 2 2 [tq, tl] _ (Sl.lit_ints _ (heap_at _ _ _ rfl) rfl trivial) (by omega)).mono ?_
            rintro e w12 ⟨rfl, hh⟩
            have hwn : All w11 w12 := hwr.trans (by rw [← hh]; exact Kept.alloc _ _ _)
            clear hh
            clear c0 hwr
            go_wp2_with fail
            go_roundw
            case rel => exact ⟨q + 1, by omega, by go_num, by rw [HN2.out], hwn⟩
            case measure => simp [intOf]; omega
          | false =>
            go_wp2_with fail
            refine (whenV_any _ _ _).mono ?_
            rintro e w' ⟨rfl, rfl⟩
            rw [show (if x2 = true then (1 : Int) else 0) = tl from by rw [HT3.out, HBD.out]; simp]
            go_wp2_with fail
            refine (errsV_any (some ⟨wp.heap.size, 0, none⟩) 2 2 [tq, tl] _ (Sl.lit_ints _ (heap_at _ _ _ rfl) rfl trivial) (by omega)).mono ?_
            rintro e w12 ⟨rfl, hh⟩
            have hwn : All w11 w12 := hwr.trans (by rw [← hh]; exact Kept.alloc _ _ _)
            clear hh
            clear c0 hwr
            go_wp2_with fail
            go_roundw
            case rel => exact ⟨q + 1, by omega, by go_num, by rw [HN2.out], hwn⟩
            case measure => simp [intOf]; omega
        case neg =>
          have hdq : decide ((q : Int) < (k : Int)) = false := by simp; omega
          have HE := Lib.hid (show ds.take q = ds from List.take_of_length_le (by have := HDL.out; omega))
          rw [HE.out, ← HNE.out]
          have hwp := hw11.trans hwr
          have hd2 : (er != er) = false := by simp
          have hd3 : (ne != ne) = false := by simp
          have HSW := Lib.hid ((HK89.out.trans HK91.out).trans hwr)
          have HNW := Lib.hid (HK91.out.trans hwr)
          clear hwr hw11
          by_cases h0 : er = 0
          case neg =>
            obtain rfl := HA2.out h0
            have hn0 : ne ≠ 0 := by rw [HNE.out, nudT_bad h0]; exact h0
            obtain rfl := HB2.out hn0
            have hd0 : (er != 0) = true := by simpa using h0
            have hd1 : (ne != 0) = true := by simpa using hn0
            clear h0 hn0
            go_wp2_with fail
            refine (asked_any _ (HG7.out _ hwp).g).mono ?_
            rintro e we ⟨rfl, hwe⟩
            go_wp2_with fail
            go_ret
            exact ⟨rfl, hend.out _ ((hwp).trans hwe)⟩
          case pos =>
            obtain ⟨p9, c9, rfl, hs9⟩ := HA1.out h0
            have hd0 : (er != 0) = false := by simpa using h0
            have HS9 := Lib.hid (fun (wy : World) (k : All wp wy) => hs9.keep RStd.ok (HSW.out.trans k))
            have h0s := HER.out.symm.trans h0
            obtain ⟨-, htm⟩ := atE_setup h0s
            have hlt3 : sl.length ≤ 1000000 := by have := HSLN.out; omega
            have hx9 := HX.out _ hwp
            have e0 := cell_at (i := 0) hx9 rfl
            have e1 := cell_at (i := 1) hx9 rfl
            have e2 := cell_at (i := 2) hx9 rfl
            have e3 := cell_at (i := 3) hx9 rfl
            have e4 := cell_at (i := 4) hx9 rfl
            have e5 := cell_at (i := 5) hx9 rfl
            have e6 := cell_at (i := 6) hx9 rfl
            clear hx9 h0s
            by_cases hn0 : ne = 0
            case neg =>
              obtain rfl := HB2.out hn0
              have hd1 : (ne != 0) = true := by simpa using hn0
              clear hn0 hs9 h0
              go_wp2_with fail
              refine (standsOf_any a0 l0 c0 a1 l1 c1 a2 l2 c2 a3 l3 c3 a4 l4 c4 s al ll cl ts tm _ (HIS.out _ hwp) (HST.out _ hwp) (by omega)).mono ?_
              rintro e wq ⟨⟨p1, c1', rfl, hs1⟩, hwq⟩
              rw [← HSLE.out, ← HSLN.out] at hs1
              rw [← HSLN.out]
              have HEQ := Lib.hid (equalStd_same p9 _ c9 p1 _ c1' sl wq (HS9.out _ hwq) hs1 (by omega))
              have hwq2 := hwp.trans hwq
              clear hs1 e0 e1 e2 e3 e4 e5 e6
              go_wp2_with fail
              refine HEQ.out.mono ?_
              rintro e wr' ⟨rfl, hwr'⟩
              have hwr2 := hwq2.trans hwr'
              go_wp2_with fail
              refine (asked_any _ (HG7.out _ hwr2).g).mono ?_
              rintro e we ⟨rfl, hwe⟩
              go_wp2_with fail
              go_ret
              exact ⟨rfl, hend.out _ ((hwr2).trans hwe)⟩
            case pos =>
              obtain ⟨p8, c8, rfl, hs8⟩ := HB1.out hn0
              have hd1 : (ne != 0) = false := by simpa using hn0
              have HS8 := Lib.hid (fun (wy : World) (k : All wp wy) => hs8.keep RPair.ok (HNW.out.trans k))
              have HDD := Lib.hid (days_ok (nudT_zero (HNE.out.symm.trans hn0)).2)
              have hlt4 : nl.length ≤ 1000000 := by have := HNLN.out; omega
              clear hn0 hs9 hs8 h0
              go_wp2_with fail
              refine (standsOf_any a0 l0 c0 a1 l1 c1 a2 l2 c2 a3 l3 c3 a4 l4 c4 s al ll cl ts tm _ (HIS.out _ hwp) (HST.out _ hwp) (by omega)).mono ?_
              rintro e wq ⟨⟨p1, c1', rfl, hs1⟩, hwq⟩
              rw [← HSLE.out, ← HSLN.out] at hs1
              rw [← HSLN.out]
              have HEQ := Lib.hid (equalStd_same p9 _ c9 p1 _ c1' sl wq (HS9.out _ hwq) hs1 (by omega))
              have hwq2 := hwp.trans hwq
              clear hs1 e0 e1 e2 e3 e4 e5 e6
              go_wp2_with fail
              refine HEQ.out.mono ?_
              rintro e wr' ⟨rfl, hwr'⟩
              have hwr2 := hwq2.trans hwr'
              have hx9 := HX.out _ hwr2
              have e0 := cell_at (i := 0) hx9 rfl
              have e1 := cell_at (i := 1) hx9 rfl
              have e2 := cell_at (i := 2) hx9 rfl
              have e3 := cell_at (i := 3) hx9 rfl
              have e4 := cell_at (i := 4) hx9 rfl
              have e5 := cell_at (i := 5) hx9 rfl
              have e6 := cell_at (i := 6) hx9 rfl
              clear hx9
              go_wp2_with fail
              refine (nudgesOf_any a0 l0 c0 a1 l1 c1 a2 l2 c2 a3 l3 c3 a4 l4 c4 s al ll cl ts da _ dc ds tm _ (HIS.out _ hwr2) (HST.out _ hwr2) (by omega) (HSD.out _ hwr2) (by omega) htm HDD.out).mono ?_
              rintro e ws ⟨⟨p2, c2', rfl, hs2⟩, hws⟩
              rw [← HNLE.out] at hs2 ⊢
              have HEQ2 := Lib.hid (equalPair_same p8 _ c8 p2 _ c2' nl ws (HS8.out _ ((hwq.trans hwr').trans hws)) hs2 (by omega))
              have hws2 := hwr2.trans hws
              clear hs2 e0 e1 e2 e3 e4 e5 e6
              go_wp2_with fail
              refine HEQ2.out.mono ?_
              rintro e wt ⟨rfl, hwt⟩
              have hwt2 := hws2.trans hwt
              go_wp2_with fail
              refine (asked_any _ (HG7.out _ hwt2).g).mono ?_
              rintro e we ⟨rfl, hwe⟩
              go_wp2_with fail
              go_ret
              exact ⟨rfl, hend.out _ ((hwt2).trans hwe)⟩
end Go.Proofs.YthhmgblcccbdaaaGreatDoor
