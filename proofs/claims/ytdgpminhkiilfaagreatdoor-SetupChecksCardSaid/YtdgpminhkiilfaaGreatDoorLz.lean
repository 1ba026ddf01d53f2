/- scene: a setup with reviews. -/
import Derived.Test.YtdgpminhkiilfaaGreatDoorBv
import Derived.Test.YtdgpminhkiilfaaGreatDoorAj
import Derived.Test.YtdgpminhkiilfaaGreatDoorWh
namespace Go.Proofs.YtdgpminhkiilfaaGreatDoor
open Go.RowKit

/-- A setup with reviews, and its error. -/
def PScene (σ : St) (hi : Nat) (v : Value) (w : World) : Prop := ∃ (a0 a1 a2 a3 a4 : Option Addr) (l0 c0 l1 c1 l2 c2 l3 c3 l4 c4 : Nat) (s : Set7) (al : Option Addr) (ll cl : Nat) (xs : List Rev), v = .tuple #[.agg #[.slice a0 l0 c0, .slice a1 l1 c1, .slice a2 l2 c2, .slice a3 l3 c3, .slice a4 l4 c4, .int .i64 s.due, .int .i64 s.reply], .slice al ll cl, .int .i64 (revsF s xs)] ∧
  SetIs (fun k => k ≠ σ.b) w a0 l0 a1 l1 a2 l2 a3 l3 a4 l4 s ∧ (l0 ≤ 30 ∧ l1 ≤ 30 ∧ l2 ≤ 30 ∧ l3 ≤ 30 ∧ l4 ≤ 30) ∧ ll ≤ hi ∧ ll ≤ cl ∧ Sl RRev 7 (fun k => k ≠ σ.b) w al ll xs
set_option maxRecDepth 100000 in
set_option maxHeartbeats 12800000 in
theorem scene_any (σ : St) (n0 : Nat) (w0 : World) (M : Nat) (hs0 : Str σ w0 n0) (hn : n0 ≤ 4611686018426900000) (hM : M ≤ 12) (hg : ∀ wx, But σ.b w0 wx → Glob wx) :
    Calls Tryz.prog 18 #[.pointer (some ⟨σ.b, 0, none⟩), .int .i64 M] w0 (StPost σ n0 61000 w0 (PScene σ M)) := by
  have hl0 := hs0.lt
  have HG := Lib.hid hg
  clear hg
  have hk1 : All w0 (w0.alloc (.cells #[.slice none 0 0, .slice none 0 0, .slice none 0 0, .slice none 0 0, .slice none 0 0, .int .i64 0, .int .i64 0] 45)) := Kept.alloc _ _ _
  have hr1 := heap_at w0 (.cells #[.slice none 0 0, .slice none 0 0, .slice none 0 0, .slice none 0 0, .slice none 0 0, .int .i64 0, .int .i64 0] 45) _ rfl
  have hs1 := hs0.keep hk1
  have hw1 : But σ.b w0 _ := hk1.all
  obtain ⟨rb, hrb⟩ : ∃ b, b = w0.heap.size := ⟨_, rfl⟩
  have HRB := Lib.hid hrb
  rw [← hrb] at hr1
  have hrs : σ.b < rb := by omega
  have hrb0 : w0.heap.size ≤ rb := by omega
  have hrb1 : rb < (w0.alloc (.cells #[.slice none 0 0, .slice none 0 0, .slice none 0 0, .slice none 0 0, .slice none 0 0, .int .i64 0, .int .i64 0] 45)).heap.size := by rw [hrb]; simp
  have hz01 : w0.heap.size ≤ (w0.alloc (.cells #[.slice none 0 0, .slice none 0 0, .slice none 0 0, .slice none 0 0, .slice none 0 0, .int .i64 0, .int .i64 0] 45)).heap.size := by simp
  clear hrb
  go_enter Tryz.func18, Tryz.ntmps18
  go_upto_region 1 with fail
  simp only [← HRB.out]
  generalize w0.alloc (.cells #[.slice none 0 0, .slice none 0 0, .slice none 0 0, .slice none 0 0, .slice none 0 0, .int .i64 0, .int .i64 0] 45) = w1 at *
  clear hk1 hs0
  have hl1 := hs1.lt
  go_wp2_with fail
  refine (setup10_any σ n0 _ hs1 (by omega) (fun wx k => HG.out wx (hw1.trans k))).mono ?_
  rintro e w2 ⟨v, n2, rfl, ⟨a0, a1, a2, a3, a4, c0, c1, c2, c3, c4, s, rfl, his, hb0, hb1, hb2, hb3, hb4⟩, hA2, hB2, hs2, hk2⟩
  have hw2 := hw1.trans hk2
  have hr2 := hk2.heap hr1 (by omega)
  have hz12 := hk2.size
  clear hr1 hs1 hw1 hk2
  have hl2 := hs2.lt
  obtain ⟨l0, hle0⟩ : ∃ l, l = s.sheet.length := ⟨_, rfl⟩
  obtain ⟨l1, hle1⟩ : ∃ l, l = s.papers.length := ⟨_, rfl⟩
  obtain ⟨l2, hle2⟩ : ∃ l, l = s.pairs.length := ⟨_, rfl⟩
  obtain ⟨l3, hle3⟩ : ∃ l, l = s.barred.length := ⟨_, rfl⟩
  obtain ⟨l4, hle4⟩ : ∃ l, l = s.chairs.length := ⟨_, rfl⟩
  rw [← hle0, ← hle1, ← hle2, ← hle3, ← hle4] at his
  rw [← hle0] at hb0
  rw [← hle1] at hb1
  rw [← hle2] at hb2
  rw [← hle3] at hb3
  rw [← hle4] at hb4
  simp only [setC, ← hle0, ← hle1, ← hle2, ← hle3, ← hle4]
  clear hle0 hle1 hle2 hle3 hle4
  have hk3 : All w2 (w2.alloc (.cells #[.slice a0 l0 c0, .slice a1 l1 c1, .slice a2 l2 c2, .slice a3 l3 c3, .slice a4 l4 c4, .int .i64 s.due, .int .i64 s.reply] 45)) := Kept.alloc _ _ _
  have hb3' := heap_at w2 (.cells #[.slice a0 l0 c0, .slice a1 l1 c1, .slice a2 l2 c2, .slice a3 l3 c3, .slice a4 l4 c4, .int .i64 s.due, .int .i64 s.reply] 45) _ rfl
  obtain ⟨bb, hbb⟩ : ∃ b, b = w2.heap.size := ⟨_, rfl⟩
  have HBB := Lib.hid hbb
  rw [← hbb] at hb3'
  have hrbb : rb < bb := by omega
  have his3 := his.keep hk3.all
  have hs3 := hs2.keep hk3
  have hw3 := hw2.trans hk3.all
  have hr3 := hk3.heap hr2 trivial
  clear hbb his hs2 hw2 hr2 hk3
  go_upto_region 2 with fail
  simp only [← HBB.out]
  generalize w2.alloc (.cells #[.slice a0 l0 c0, .slice a1 l1 c1, .slice a2 l2 c2, .slice a3 l3 c3, .slice a4 l4 c4, .int .i64 s.due, .int .i64 s.reply] 45) = w3 at *
  have hl3 := hs3.lt
  have e0 := cell_at (i := 0) hb3' rfl
  have e1 := cell_at (i := 1) hb3' rfl
  have e2 := cell_at (i := 2) hb3' rfl
  have e3 := cell_at (i := 3) hb3' rfl
  have e4 := cell_at (i := 4) hb3' rfl
  have e5 := cell_at (i := 5) hb3' rfl
  have e6 := cell_at (i := 6) hb3' rfl
  go_wp2_with fail
  refine (reviews_any σ n2 _ a0 l0 c0 a1 l1 c1 a2 l2 c2 a3 l3 c3 a4 l4 c4 s M hs3 (by omega) his3 (by omega) (by omega) hM (fun wx k => HG.out wx (hw3.trans k))).mono ?_
  rintro e w4 ⟨v, n4, rfl, ⟨xs, hxl, hac⟩, hA4, hB4, hs4, hk4⟩
  have hw4 := hw3.trans hk4
  have his4 := his3.keep hk4
  have hr4 := hk4.heap hr3 (by omega)
  have hb4' := hk4.heap hb3' (by omega)
  clear hs3 his3 hr3 hb3' hw3 e0 e1 e2 e3 e4 e5 e6
  obtain ⟨al, cl, rfl, hcl⟩ := hac.form
  have hsx : Sl RRev 7 (fun k => k ≠ σ.b) w4 al xs.length xs := by
    obtain ⟨al', cl', he, hsl⟩ := hac.sl RRev.ok (by decide) (G := fun k => k ≠ σ.b) (fun _ h => h) (fun j hj => by have := (hac.lt j hj).1; omega)
    injection he with h1 h2 h3
    subst h1
    exact hsl
  have hxty := hac.notType hr4 (by decide)
  obtain ⟨ll, hll⟩ : ∃ l, l = xs.length := ⟨_, rfl⟩
  rw [← hll] at hcl hsx hxl ⊢
  clear hll hac hk4
  have HF := Lib.hid (fun (wx : World) (k : All w4 wx) => reviewsFault_any a0 l0 c0 a1 l1 c1 a2 l2 c2 a3 l3 c3 a4 l4 c4 s al ll cl xs wx ((his4.mono (fun _ _ => trivial)).keep k) ((hsx.mono RRev.ok (fun _ _ => trivial)).keep RRev.ok k) (by omega) hcl (HG.out wx (hw4.trans k.all)))
  obtain ⟨ef, hef⟩ : ∃ z, z = revsF s xs := ⟨_, rfl⟩
  have HEF := Lib.hid hef
  rw [← hef] at HF
  clear hef
  have e0 := cell_at (i := 0) hb4' rfl
  have e1 := cell_at (i := 1) hb4' rfl
  have e2 := cell_at (i := 2) hb4' rfl
  have e3 := cell_at (i := 3) hb4' rfl
  have e4 := cell_at (i := 4) hb4' rfl
  have e5 := cell_at (i := 5) hb4' rfl
  have e6 := cell_at (i := 6) hb4' rfl
  have HB4 := Lib.hid (fun (wx : World) (k : All w4 wx) => k.heap hb4' trivial)
  have HR4 := Lib.hid (fun (wx : World) (k : All w4 wx) => k.heap hr4 trivial)
  have y0 := cell_at (i := 0) hr4 rfl
  have y1 := cell_at (i := 1) hr4 rfl
  have y2 := cell_at (i := 2) hr4 rfl
  have y3 := cell_at (i := 3) hr4 rfl
  have y4 := cell_at (i := 4) hr4 rfl
  have y5 := cell_at (i := 5) hr4 rfl
  have y6 := cell_at (i := 6) hr4 rfl
  have u0 := frozen_at (i := 0) hr4
  have u1 := frozen_at (i := 1) hr4
  have u2 := frozen_at (i := 2) hr4
  have u3 := frozen_at (i := 3) hr4
  have u4 := frozen_at (i := 4) hr4
  have u5 := frozen_at (i := 5) hr4
  have u6 := frozen_at (i := 6) hr4
  go_wp2_with fail
  go_region_law (first | (go_simp; go_at_call 56; refine (HF.out _ (by repeat (first | exact Kept.refl _ _ | refine Kept.then_drew ?_ | refine Kept.then_drewN ?_ _ | refine Kept.then_alloc ?_ _))).mono ?_; rintro e w5 ⟨rfl, hw5'⟩; have hw5 : All w4 w5 := Kept.trans ((by repeat (first | exact Kept.refl _ _ | refine Kept.then_drew ?_ | refine Kept.then_drewN ?_ _ | refine Kept.then_alloc ?_ _)) : All w4 _) hw5'; have hbX := HB4.out w5 hw5; have hrX := HR4.out w5 hw5; have f0 := cell_at (i := 0) hbX rfl; have z0 := cell_at (i := 0) hrX rfl; have x0 := frozen_at (i := 0) hrX; have f1 := cell_at (i := 1) hbX rfl; have z1 := cell_at (i := 1) hrX rfl; have x1 := frozen_at (i := 1) hrX; have f2 := cell_at (i := 2) hbX rfl; have z2 := cell_at (i := 2) hrX rfl; have x2 := frozen_at (i := 2) hrX; have f3 := cell_at (i := 3) hbX rfl; have z3 := cell_at (i := 3) hrX rfl; have x3 := frozen_at (i := 3) hrX; have f4 := cell_at (i := 4) hbX rfl; have z4 := cell_at (i := 4) hrX rfl; have x4 := frozen_at (i := 4) hrX; have f5 := cell_at (i := 5) hbX rfl; have z5 := cell_at (i := 5) hrX rfl; have x5 := frozen_at (i := 5) hrX; have f6 := cell_at (i := 6) hbX rfl; have z6 := cell_at (i := 6) hrX rfl; have x6 := frozen_at (i := 6) hrX))
  all_goals
    have hke : Kept (fun k => k ≠ rb) w5 (((((((w5.setCell ⟨rb, 0, none⟩ (.slice a0 l0 c0)).setCell ⟨rb, 1, none⟩ (.slice a1 l1 c1)).setCell ⟨rb, 2, none⟩ (.slice a2 l2 c2)).setCell ⟨rb, 3, none⟩ (.slice a3 l3 c3)).setCell ⟨rb, 4, none⟩ (.slice a4 l4 c4)).setCell ⟨rb, 5, none⟩ (.int .i64 s.due)).setCell ⟨rb, 6, none⟩ (.int .i64 s.reply)) := (((((((Kept.refl _ _).then_setCell _ _ (fun h => h rfl)).then_setCell _ _ (fun h => h rfl)).then_setCell _ _ (fun h => h rfl)).then_setCell _ _ (fun h => h rfl)).then_setCell _ _ (fun h => h rfl)).then_setCell _ _ (fun h => h rfl)).then_setCell _ _ (fun h => h rfl)
    have hrn : NoStr w5 rb := NoStr.of hrX (by intro v hv z; simp at hv; rcases hv with rfl | rfl | rfl <;> exact fun h => by cases h)
    have hfi := Lib.hid ((his4.keep hw5.all).past hrn hke)
    have hfx := Lib.hid ((hsx.keep RRev.ok hw5.all).past RRev.isOff RRev.ok hrn hke)
    have hfs := Lib.hid ((((((((hs4.keep hw5).set ⟨rb, 0, none⟩ (.slice a0 l0 c0) (by dsimp only; omega)).set ⟨rb, 1, none⟩ (.slice a1 l1 c1) (by dsimp only; omega)).set ⟨rb, 2, none⟩ (.slice a2 l2 c2) (by dsimp only; omega)).set ⟨rb, 3, none⟩ (.slice a3 l3 c3) (by dsimp only; omega)).set ⟨rb, 4, none⟩ (.slice a4 l4 c4) (by dsimp only; omega)).set ⟨rb, 5, none⟩ (.int .i64 s.due) (by dsimp only; omega)).set ⟨rb, 6, none⟩ (.int .i64 s.reply) (by dsimp only; omega))
    have hfw := Lib.hid ((((((((hw4.trans hw5.all).then_setNew ⟨rb, 0, none⟩ (.slice a0 l0 c0) (by dsimp only; omega)).then_setNew ⟨rb, 1, none⟩ (.slice a1 l1 c1) (by dsimp only; omega)).then_setNew ⟨rb, 2, none⟩ (.slice a2 l2 c2) (by dsimp only; omega)).then_setNew ⟨rb, 3, none⟩ (.slice a3 l3 c3) (by dsimp only; omega)).then_setNew ⟨rb, 4, none⟩ (.slice a4 l4 c4) (by dsimp only; omega)).then_setNew ⟨rb, 5, none⟩ (.int .i64 s.due) (by dsimp only; omega)).then_setNew ⟨rb, 6, none⟩ (.int .i64 s.reply) (by dsimp only; omega))
    have j0 := heap_setCell_at w5 rb 0 (.slice a0 l0 c0) _ _ _ hrX
    have j1 := heap_setCell_at (w5.setCell ⟨rb, 0, none⟩ (.slice a0 l0 c0)) rb 1 (.slice a1 l1 c1) _ _ _ j0
    have j2 := heap_setCell_at ((w5.setCell ⟨rb, 0, none⟩ (.slice a0 l0 c0)).setCell ⟨rb, 1, none⟩ (.slice a1 l1 c1)) rb 2 (.slice a2 l2 c2) _ _ _ j1
    have j3 := heap_setCell_at (((w5.setCell ⟨rb, 0, none⟩ (.slice a0 l0 c0)).setCell ⟨rb, 1, none⟩ (.slice a1 l1 c1)).setCell ⟨rb, 2, none⟩ (.slice a2 l2 c2)) rb 3 (.slice a3 l3 c3) _ _ _ j2
    have j4 := heap_setCell_at ((((w5.setCell ⟨rb, 0, none⟩ (.slice a0 l0 c0)).setCell ⟨rb, 1, none⟩ (.slice a1 l1 c1)).setCell ⟨rb, 2, none⟩ (.slice a2 l2 c2)).setCell ⟨rb, 3, none⟩ (.slice a3 l3 c3)) rb 4 (.slice a4 l4 c4) _ _ _ j3
    have j5 := heap_setCell_at (((((w5.setCell ⟨rb, 0, none⟩ (.slice a0 l0 c0)).setCell ⟨rb, 1, none⟩ (.slice a1 l1 c1)).setCell ⟨rb, 2, none⟩ (.slice a2 l2 c2)).setCell ⟨rb, 3, none⟩ (.slice a3 l3 c3)).setCell ⟨rb, 4, none⟩ (.slice a4 l4 c4)) rb 5 (.int .i64 s.due) _ _ _ j4
    have j6 := heap_setCell_at ((((((w5.setCell ⟨rb, 0, none⟩ (.slice a0 l0 c0)).setCell ⟨rb, 1, none⟩ (.slice a1 l1 c1)).setCell ⟨rb, 2, none⟩ (.slice a2 l2 c2)).setCell ⟨rb, 3, none⟩ (.slice a3 l3 c3)).setCell ⟨rb, 4, none⟩ (.slice a4 l4 c4)).setCell ⟨rb, 5, none⟩ (.int .i64 s.due)) rb 6 (.int .i64 s.reply) _ _ _ j5
    have hfin : (((((((w5.setCell ⟨rb, 0, none⟩ (.slice a0 l0 c0)).setCell ⟨rb, 1, none⟩ (.slice a1 l1 c1)).setCell ⟨rb, 2, none⟩ (.slice a2 l2 c2)).setCell ⟨rb, 3, none⟩ (.slice a3 l3 c3)).setCell ⟨rb, 4, none⟩ (.slice a4 l4 c4)).setCell ⟨rb, 5, none⟩ (.int .i64 s.due)).setCell ⟨rb, 6, none⟩ (.int .i64 s.reply)).heap[rb]? = some (.cells #[.slice a0 l0 c0, .slice a1 l1 c1, .slice a2 l2 c2, .slice a3 l3 c3, .slice a4 l4 c4, .int .i64 s.due, .int .i64 s.reply] 45 (0, 0)) := by simpa using j6
    have q0 := cell_at (i := 0) hfin rfl
    have q1 := cell_at (i := 1) hfin rfl
    have q2 := cell_at (i := 2) hfin rfl
    have q3 := cell_at (i := 3) hfin rfl
    have q4 := cell_at (i := 4) hfin rfl
    have q5 := cell_at (i := 5) hfin rfl
    have q6 := cell_at (i := 6) hfin rfl
    clear hke hfin hrn hbX hrX j0 j1 j2 j3 j4 j5 j6
    go_wp2_with fail
    refine bodyPost_ret (v := .tuple #[.agg #[.slice a0 l0 c0, .slice a1 l1 c1, .slice a2 l2 c2, .slice a3 l3 c3, .slice a4 l4 c4, .int .i64 s.due, .int .i64 s.reply], .slice al ll cl, .int .i64 ef]) ?_ rfl ⟨_, n4, rfl, ⟨a0, a1, a2, a3, a4, l0, c0, l1, c1, l2, c2, l3, c3, l4, c4, s, al, ll, cl, xs, by rw [HEF.out], hfi.out, ⟨hb0, hb1, hb2, hb3, hb4⟩, hxl, hcl, hfx.out⟩, by omega, by omega, hfs.out, hfw.out⟩
    simp [results, Tryz.results18, go_sem, q0, q1, q2, q3, q4, q5, q6]
end Go.Proofs.YtdgpminhkiilfaaGreatDoor

/- The law SetupChecks, walked. -/
namespace Go.Proofs.YtdgpminhkiilfaaGreatDoor
open Go.RowKit

theorem Glob.lt {w : World} (h : Glob w) : 0 < w.heap.size ∧ 1 < w.heap.size ∧ 2 < w.heap.size := by
  obtain ⟨m, hm⟩ := h.most
  exact ⟨lt_of_cell (h.tabs.1 0 (by decide)), lt_of_cell (h.tabs.2 0 (by decide)).1, lt_of_cell hm⟩
set_option maxRecDepth 100000 in
set_option maxHeartbeats 12800000 in
theorem setupChecks_walk (a : Option Addr) (len cap : Nat) (w : World) (h : IsRow w a len cap) (hG : Glob w) :
    Calls Tryz.prog 4 #[.slice a len cap] w fun e w' => e = .returned (.bool true) ∧ Below w.heap.size w w' := by
  have hst := h.start
  obtain ⟨σ, hσ⟩ : ∃ σ : St, σ = ⟨w.heap.size, a, len, cap⟩ := ⟨_, rfl⟩
  have hσb : σ.b = w.heap.size := by rw [hσ]
  rw [← hσ] at hst
  have hptr : (Value.pointer (some ⟨w.heap.size, 0, none⟩)) = Value.pointer (some ⟨σ.b, 0, none⟩) := by rw [hσb]
  have Hptr := Lib.hid hptr
  have Hσ := Lib.hid hσb
  have hk0 : But σ.b w (w.alloc (.cells #[.slice a len cap, .int .i64 0] 25)) := Kept.alloc _ _ _
  have hgl := hG.lt
  have HG := Lib.hid (fun (wx : World) (k : But σ.b w wx) => hG.kept k (by omega) (by omega) (by omega))
  clear hσ hσb hptr h hG hgl
  go_enter Tryz.func4, Tryz.ntmps4
  go_upto_region 2 with fail
  simp only [Hptr.out]
  generalize w.alloc (.cells #[.slice a len cap, .int .i64 0] 25) = w0 at *
  have hl0 := hst.lt
  go_wp2_with fail
  refine (range_any σ 0 0 6 _ hst (by omega) (by omega) (by omega) (by omega)).mono ?_
  rintro e w1 ⟨v, n1, rfl, ⟨r, rfl, hr1, hr2⟩, -, hn1, hs1, hb1⟩
  obtain ⟨M, rfl⟩ := Int.eq_ofNat_of_zero_le hr1
  have hM : M ≤ 6 := by omega
  have hw1 := hk0.trans hb1
  clear hr1 hr2 hst hb1 hk0
  go_wp2_with fail
  refine (scene_any σ n1 _ M hs1 (by omega) (by omega) (fun wx k => HG.out wx (hw1.trans k))).mono ?_
  rintro e w2 ⟨v, n2, rfl, ⟨a0, a1, a2, a3, a4, l0, c0, l1, c1, l2, c2, l3, c3, l4, c4, s, al, ll, cl, xs, rfl, his, ⟨hb0, hb1, hb2, hb3, hb4⟩, hll, hcl, hsx⟩, -, hn2, hs2, hk2⟩
  have hw2 := hw1.trans hk2
  have hl2' := hs2.lt
  clear hs1 hw1 hk2
  have hk3 : All w2 (w2.alloc (.cells #[.slice a0 l0 c0, .slice a1 l1 c1, .slice a2 l2 c2, .slice a3 l3 c3, .slice a4 l4 c4, .int .i64 s.due, .int .i64 s.reply] 45)) := Kept.alloc _ _ _
  have hb3' := heap_at w2 (.cells #[.slice a0 l0 c0, .slice a1 l1 c1, .slice a2 l2 c2, .slice a3 l3 c3, .slice a4 l4 c4, .int .i64 s.due, .int .i64 s.reply] 45) _ rfl
  have e0 := cell_at (i := 0) hb3' rfl
  have e1 := cell_at (i := 1) hb3' rfl
  have e2 := cell_at (i := 2) hb3' rfl
  have e3 := cell_at (i := 3) hb3' rfl
  have e4 := cell_at (i := 4) hb3' rfl
  have e5 := cell_at (i := 5) hb3' rfl
  have e6 := cell_at (i := 6) hb3' rfl
  have hG3 := HG.out _ (hw2.trans hk3.all)
  have hend := Lib.hid (show ∀ wx, All w2 wx → Below w.heap.size w wx from fun wx k => (hw2.trans k.all).below (Nat.le_refl _) (fun k hk => by have := Hσ.out; omega))
  have his3 := (his.mono (fun _ _ => trivial) : SetIs (fun _ => True) w2 a0 l0 a1 l1 a2 l2 a3 l3 a4 l4 s).keep hk3
  have hsx3 := (hsx.mono RRev.ok (fun _ _ => trivial) : Sl RRev 7 (fun _ => True) w2 al ll xs).keep RRev.ok hk3
  obtain ⟨es, hes⟩ : ∃ z, z = setupF s := ⟨_, rfl⟩
  obtain ⟨ef, hef⟩ : ∃ z, z = revsF s xs := ⟨_, rfl⟩
  have M1 := Lib.hid (fun (wx : World) (k : All (w2.alloc (.cells #[.slice a0 l0 c0, .slice a1 l1 c1, .slice a2 l2 c2, .slice a3 l3 c3, .slice a4 l4 c4, .int .i64 s.due, .int .i64 s.reply] 45)) wx) => checkSetup_any a0 l0 c0 a1 l1 c1 a2 l2 c2 a3 l3 c3 a4 l4 c4 s wx (his3.keep k) (hG3.keep k))
  have M2 := Lib.hid (fun (wx : World) (k : All (w2.alloc (.cells #[.slice a0 l0 c0, .slice a1 l1 c1, .slice a2 l2 c2, .slice a3 l3 c3, .slice a4 l4 c4, .int .i64 s.due, .int .i64 s.reply] 45)) wx) => setupFault_any a0 l0 c0 a1 l1 c1 a2 l2 c2 a3 l3 c3 a4 l4 c4 s wx (his3.keep k) (hG3.keep k))
  have M3 := Lib.hid (fun (wx : World) (k : All (w2.alloc (.cells #[.slice a0 l0 c0, .slice a1 l1 c1, .slice a2 l2 c2, .slice a3 l3 c3, .slice a4 l4 c4, .int .i64 s.due, .int .i64 s.reply] 45)) wx) => check_any a0 l0 c0 a1 l1 c1 a2 l2 c2 a3 l3 c3 a4 l4 c4 s al ll cl xs wx (his3.keep k) (hsx3.keep RRev.ok k) (by omega) hcl (hG3.keep k))
  have M4 := Lib.hid (fun (wx : World) (k : All (w2.alloc (.cells #[.slice a0 l0 c0, .slice a1 l1 c1, .slice a2 l2 c2, .slice a3 l3 c3, .slice a4 l4 c4, .int .i64 s.due, .int .i64 s.reply] 45)) wx) => asked_any wx (hG3.keep k))
  rw [← hes] at M1 M2
  rw [← hef] at M3 ⊢
  have HB := Lib.hid (fun (wx : World) (k : All (w2.alloc (.cells #[.slice a0 l0 c0, .slice a1 l1 c1, .slice a2 l2 c2, .slice a3 l3 c3, .slice a4 l4 c4, .int .i64 s.due, .int .i64 s.reply] 45)) wx) => k.heap hb3' trivial)
  clear hes hef his his3 hsx hsx3 hG3 hb3' HG hw2 hs2
  go_wp2_with fail
  go_region_held3 (fun w' => w'.cell? ⟨w2.heap.size, 0, none⟩ = some (.slice a0 l0 c0) ∧ w'.cell? ⟨w2.heap.size, 1, none⟩ = some (.slice a1 l1 c1) ∧ w'.cell? ⟨w2.heap.size, 2, none⟩ = some (.slice a2 l2 c2) ∧ w'.cell? ⟨w2.heap.size, 3, none⟩ = some (.slice a3 l3 c3) ∧ w'.cell? ⟨w2.heap.size, 4, none⟩ = some (.slice a4 l4 c4) ∧ w'.cell? ⟨w2.heap.size, 5, none⟩ = some (.int .i64 s.due) ∧ w'.cell? ⟨w2.heap.size, 6, none⟩ = some (.int .i64 s.reply)) (first | go_keep | exact ⟨by assumption, by assumption, by assumption, by assumption, by assumption, by assumption, by assumption⟩) (first | (go_at_call 20; refine (M1.out _ ((by repeat (first | exact Kept.refl _ _ | refine Kept.then_drew ?_ | refine Kept.then_drewN ?_ _ | refine Kept.then_alloc ?_ _)) : All (w2.alloc (.cells #[.slice a0 l0 c0, .slice a1 l1 c1, .slice a2 l2 c2, .slice a3 l3 c3, .slice a4 l4 c4, .int .i64 s.due, .int .i64 s.reply] 45)) _)).mono ?_; rintro e wa ⟨rfl, hwa'⟩; have hwa : All (w2.alloc (.cells #[.slice a0 l0 c0, .slice a1 l1 c1, .slice a2 l2 c2, .slice a3 l3 c3, .slice a4 l4 c4, .int .i64 s.due, .int .i64 s.reply] 45)) wa := Kept.trans ((by repeat (first | exact Kept.refl _ _ | refine Kept.then_drew ?_ | refine Kept.then_drewN ?_ _ | refine Kept.then_alloc ?_ _)) : All (w2.alloc (.cells #[.slice a0 l0 c0, .slice a1 l1 c1, .slice a2 l2 c2, .slice a3 l3 c3, .slice a4 l4 c4, .int .i64 s.due, .int .i64 s.reply] 45)) _) hwa'; have hbXwa := HB.out wa hwa; have fwa0 := cell_at (i := 0) hbXwa rfl; have fwa1 := cell_at (i := 1) hbXwa rfl; have fwa2 := cell_at (i := 2) hbXwa rfl; have fwa3 := cell_at (i := 3) hbXwa rfl; have fwa4 := cell_at (i := 4) hbXwa rfl; have fwa5 := cell_at (i := 5) hbXwa rfl; have fwa6 := cell_at (i := 6) hbXwa rfl; clear hbXwa) | (go_at_call 21; refine (M2.out _ (hwa.trans (by repeat (first | exact Kept.refl _ _ | refine Kept.then_drew ?_ | refine Kept.then_drewN ?_ _ | refine Kept.then_alloc ?_ _)))).mono ?_; rintro e wb ⟨rfl, hwb'⟩; have hwb : All (w2.alloc (.cells #[.slice a0 l0 c0, .slice a1 l1 c1, .slice a2 l2 c2, .slice a3 l3 c3, .slice a4 l4 c4, .int .i64 s.due, .int .i64 s.reply] 45)) wb := Kept.trans (hwa.trans (by repeat (first | exact Kept.refl _ _ | refine Kept.then_drew ?_ | refine Kept.then_drewN ?_ _ | refine Kept.then_alloc ?_ _))) hwb'; have hbXwb := HB.out wb hwb; have fwb0 := cell_at (i := 0) hbXwb rfl; have fwb1 := cell_at (i := 1) hbXwb rfl; have fwb2 := cell_at (i := 2) hbXwb rfl; have fwb3 := cell_at (i := 3) hbXwb rfl; have fwb4 := cell_at (i := 4) hbXwb rfl; have fwb5 := cell_at (i := 5) hbXwb rfl; have fwb6 := cell_at (i := 6) hbXwb rfl; clear hbXwb) | (go_at_call 22; refine (M3.out _ (hwb.trans (by repeat (first | exact Kept.refl _ _ | refine Kept.then_drew ?_ | refine Kept.then_drewN ?_ _ | refine Kept.then_alloc ?_ _)))).mono ?_; rintro e wd ⟨rfl, hwd'⟩; have hwd : All (w2.alloc (.cells #[.slice a0 l0 c0, .slice a1 l1 c1, .slice a2 l2 c2, .slice a3 l3 c3, .slice a4 l4 c4, .int .i64 s.due, .int .i64 s.reply] 45)) wd := Kept.trans (hwb.trans (by repeat (first | exact Kept.refl _ _ | refine Kept.then_drew ?_ | refine Kept.then_drewN ?_ _ | refine Kept.then_alloc ?_ _))) hwd'; have hbXwd := HB.out wd hwd; have fwd0 := cell_at (i := 0) hbXwd rfl; have fwd1 := cell_at (i := 1) hbXwd rfl; have fwd2 := cell_at (i := 2) hbXwd rfl; have fwd3 := cell_at (i := 3) hbXwd rfl; have fwd4 := cell_at (i := 4) hbXwd rfl; have fwd5 := cell_at (i := 5) hbXwd rfl; have fwd6 := cell_at (i := 6) hbXwd rfl; clear hbXwd) | (go_at_call 17; refine (M4.out _ (hwd.trans (by repeat (first | exact Kept.refl _ _ | refine Kept.then_drew ?_ | refine Kept.then_drewN ?_ _ | refine Kept.then_alloc ?_ _)))).mono ?_; rintro e we ⟨rfl, hwe'⟩; have hwe : All (w2.alloc (.cells #[.slice a0 l0 c0, .slice a1 l1 c1, .slice a2 l2 c2, .slice a3 l3 c3, .slice a4 l4 c4, .int .i64 s.due, .int .i64 s.reply] 45)) we := Kept.trans (hwd.trans (by repeat (first | exact Kept.refl _ _ | refine Kept.then_drew ?_ | refine Kept.then_drewN ?_ _ | refine Kept.then_alloc ?_ _))) hwe'; have hbXwe := HB.out we hwe; have fwe0 := cell_at (i := 0) hbXwe rfl; have fwe1 := cell_at (i := 1) hbXwe rfl; have fwe2 := cell_at (i := 2) hbXwe rfl; have fwe3 := cell_at (i := 3) hbXwe rfl; have fwe4 := cell_at (i := 4) hbXwe rfl; have fwe5 := cell_at (i := 5) hbXwe rfl; have fwe6 := cell_at (i := 6) hbXwe rfl; clear hbXwe))
  go_wp2_with fail
  go_ret
  exact ⟨rfl, hend.out _ (hk3.trans hwe)⟩
end Go.Proofs.YtdgpminhkiilfaaGreatDoor
