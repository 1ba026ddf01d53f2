/- scene: a setup with reviews. -/
import Derived.Test.YthhmgblcccbdaaaGreatDoorBv
import Derived.Test.YthhmgblcccbdaaaGreatDoorBz
import Derived.Test.YthhmgblcccbdaaaGreatDoorRt
import Derived.Test.YthhmgblcccbdaaaGreatDoorEt
import Derived.Test.YthhmgblcccbdaaaGreatDoorAj
import Derived.Test.YthhmgblcccbdaaaGreatDoorWi
namespace Go.Proofs.YthhmgblcccbdaaaGreatDoor
open Go.RowKit

/-- A setup with reviews, and its error. -/
def PScene (σ : St) (hi : Nat) (v : Value) (w : World) : Prop := ∃ (a0 a1 a2 a3 a4 : Option Addr) (l0 c0 l1 c1 l2 c2 l3 c3 l4 c4 : Nat) (s : Set7) (al : Option Addr) (ll cl : Nat) (xs : List Rev), v = .tuple #[.agg #[.slice a0 l0 c0, .slice a1 l1 c1, .slice a2 l2 c2, .slice a3 l3 c3, .slice a4 l4 c4, .int .i64 s.due, .int .i64 s.reply], .slice al ll cl, .int .i64 (revsF s xs)] ∧
  SetIs (fun k => k ≠ σ.b) w a0 l0 a1 l1 a2 l2 a3 l3 a4 l4 s ∧ (l0 ≤ 30 ∧ l1 ≤ 30 ∧ l2 ≤ 30 ∧ l3 ≤ 30 ∧ l4 ≤ 30) ∧ ll ≤ hi ∧ ll ≤ cl ∧ Sl RRev 7 (fun k => k ≠ σ.b) w al ll xs
set_option maxRecDepth 100000 in
set_option maxHeartbeats 12800000 in
theorem scene_any (σ : St) (n0 : Nat) (w0 : World) (M : Nat) (hs0 : Str σ w0 n0) (hn : n0 ≤ 4611686018426900000) (hM : M ≤ 12) (hg : ∀ wx, But σ.b w0 wx → Glob wx) :
    Calls Tryz.prog 7 #[.pointer (some ⟨σ.b, 0, none⟩), .int .i64 M] w0 (StPost σ n0 61000 w0 (PScene σ M)) := by
  have hl0 := hs0.lt
  have HG := Lib.hid hg
  clear hg
  have hk1 : All w0 (w0.alloc (.cells #[.slice none 0 0, .slice none 0 0, .slice none 0 0, .slice none 0 0, .slice none 0 0, .int .i64 0, .int .i64 0] 31)) := Kept.alloc _ _ _
  have hr1 := heap_at w0 (.cells #[.slice none 0 0, .slice none 0 0, .slice none 0 0, .slice none 0 0, .slice none 0 0, .int .i64 0, .int .i64 0] 31) _ rfl
  have hs1 := hs0.keep hk1
  have hw1 : But σ.b w0 _ := hk1.all
  obtain ⟨rb, hrb⟩ : ∃ b, b = w0.heap.size := ⟨_, rfl⟩
  have HRB := Lib.hid hrb
  rw [← hrb] at hr1
  have hrs : σ.b < rb := by omega
  have hrb0 : w0.heap.size ≤ rb := by omega
  have hrb1 : rb < (w0.alloc (.cells #[.slice none 0 0, .slice none 0 0, .slice none 0 0, .slice none 0 0, .slice none 0 0, .int .i64 0, .int .i64 0] 31)).heap.size := by rw [hrb]; simp
  have hz01 : w0.heap.size ≤ (w0.alloc (.cells #[.slice none 0 0, .slice none 0 0, .slice none 0 0, .slice none 0 0, .slice none 0 0, .int .i64 0, .int .i64 0] 31)).heap.size := by simp
  clear hrb
  go_enter Tryz.func7, Tryz.ntmps7
  go_upto_region 1 with fail
  simp only [← HRB.out]
  generalize w0.alloc (.cells #[.slice none 0 0, .slice none 0 0, .slice none 0 0, .slice none 0 0, .slice none 0 0, .int .i64 0, .int .i64 0] 31) = w1 at *
  clear hk1 hs0
  have hl1 := hs1.lt
  go_wp2_with fail
  refine (setup10_any σ n0 _ hs1 (by omega) (fun wx k => HG.out wx (hw1.trans k))).mono ?_
  rintro e w2 ⟨v, n2, rfl, ⟨a0, a1, a2, a3, a4, c0, c1, c2, c3, c4, s, rfl, his, hb0, hb1, hb2, hb3, hb4⟩, hA2, hB2, hs2, hk2⟩
  have hw2 := hw1.trans hk2
  have hr2 := hk2.heap hr1 (by omega)
  have hz12 := hk2.size
  clear hr1 hs1 hw1 hk2
  have hl2 := hs2.lt
  obtain ⟨l0, hle0⟩ : ∃ l, l = s.sheet.length := ⟨_, rfl⟩
  obtain ⟨l1, hle1⟩ : ∃ l, l = s.papers.length := ⟨_, rfl⟩
  obtain ⟨l2, hle2⟩ : ∃ l, l = s.pairs.length := ⟨_, rfl⟩
  obtain ⟨l3, hle3⟩ : ∃ l, l = s.barred.length := ⟨_, rfl⟩
  obtain ⟨l4, hle4⟩ : ∃ l, l = s.chairs.length := ⟨_, rfl⟩
  rw [← hle0, ← hle1, ← hle2, ← hle3, ← hle4] at his
  rw [← hle0] at hb0
  rw [← hle1] at hb1
  rw [← hle2] at hb2
  rw [← hle3] at hb3
  rw [← hle4] at hb4
  simp only [setC, ← hle0, ← hle1, ← hle2, ← hle3, ← hle4]
  clear hle0 hle1 hle2 hle3 hle4
  have hk3 : All w2 (w2.alloc (.cells #[.slice a0 l0 c0, .slice a1 l1 c1, .slice a2 l2 c2, .slice a3 l3 c3, .slice a4 l4 c4, .int .i64 s.due, .int .i64 s.reply] 31)) := Kept.alloc _ _ _
  have hb3' := heap_at w2 (.cells #[.slice a0 l0 c0, .slice a1 l1 c1, .slice a2 l2 c2, .slice a3 l3 c3, .slice a4 l4 c4, .int .i64 s.due, .int .i64 s.reply] 31) _ rfl
  obtain ⟨bb, hbb⟩ : ∃ b, b = w2.heap.size := ⟨_, rfl⟩
  have HBB := Lib.hid hbb
  rw [← hbb] at hb3'
  have hrbb : rb < bb := by omega
  have his3 := his.keep hk3.all
  have hs3 := hs2.keep hk3
  have hw3 := hw2.trans hk3.all
  have hr3 := hk3.heap hr2 trivial
  clear hbb his hs2 hw2 hr2 hk3
  go_upto_region 2 with fail
  simp only [← HBB.out]
  generalize w2.alloc (.cells #[.slice a0 l0 c0, .slice a1 l1 c1, .slice a2 l2 c2, .slice a3 l3 c3, .slice a4 l4 c4, .int .i64 s.due, .int .i64 s.reply] 31) = w3 at *
  have hl3 := hs3.lt
  have e0 := cell_at (i := 0) hb3' rfl
  have e1 := cell_at (i := 1) hb3' rfl
  have e2 := cell_at (i := 2) hb3' rfl
  have e3 := cell_at (i := 3) hb3' rfl
  have e4 := cell_at (i := 4) hb3' rfl
  have e5 := cell_at (i := 5) hb3' rfl
  have e6 := cell_at (i := 6) hb3' rfl
  go_wp2_with fail
  refine (reviews_any σ n2 _ a0 l0 c0 a1 l1 c1 a2 l2 c2 a3 l3 c3 a4 l4 c4 s M hs3 (by omega) his3 (by omega) (by omega) hM (fun wx k => HG.out wx (hw3.trans k))).mono ?_
  rintro e w4 ⟨v, n4, rfl, ⟨xs, hxl, hac⟩, hA4, hB4, hs4, hk4⟩
  have hw4 := hw3.trans hk4
  have his4 := his3.keep hk4
  have hr4 := hk4.heap hr3 (by omega)
  have hb4' := hk4.heap hb3' (by omega)
  clear hs3 his3 hr3 hb3' hw3 e0 e1 e2 e3 e4 e5 e6
  obtain ⟨al, cl, rfl, hcl⟩ := hac.form
  have hsx : Sl RRev 7 (fun k => k ≠ σ.b) w4 al xs.length xs := by
    obtain ⟨al', cl', he, hsl⟩ := hac.sl RRev.ok (by decide) (G := fun k => k ≠ σ.b) (fun _ h => h) (fun j hj => by have := (hac.lt j hj).1; omega)
    injection he with h1 h2 h3
    subst h1
    exact hsl
  have hxty := hac.notType hr4 (by decide)
  obtain ⟨ll, hll⟩ : ∃ l, l = xs.length := ⟨_, rfl⟩
  rw [← hll] at hcl hsx hxl ⊢
  clear hll hac hk4
  have HF := Lib.hid (fun (wx : World) (k : All w4 wx) => reviewsFault_any a0 l0 c0 a1 l1 c1 a2 l2 c2 a3 l3 c3 a4 l4 c4 s al ll cl xs wx ((his4.mono (fun _ _ => trivial)).keep k) ((hsx.mono RRev.ok (fun _ _ => trivial)).keep RRev.ok k) (by omega) hcl (HG.out wx (hw4.trans k.all)))
  obtain ⟨ef, hef⟩ : ∃ z, z = revsF s xs := ⟨_, rfl⟩
  have HEF := Lib.hid hef
  rw [← hef] at HF
  clear hef
  have e0 := cell_at (i := 0) hb4' rfl
  have e1 := cell_at (i := 1) hb4' rfl
  have e2 := cell_at (i := 2) hb4' rfl
  have e3 := cell_at (i := 3) hb4' rfl
  have e4 := cell_at (i := 4) hb4' rfl
  have e5 := cell_at (i := 5) hb4' rfl
  have e6 := cell_at (i := 6) hb4' rfl
  have HB4 := Lib.hid (fun (wx : World) (k : All w4 wx) => k.heap hb4' trivial)
  have HR4 := Lib.hid (fun (wx : World) (k : All w4 wx) => k.heap hr4 trivial)
  have y0 := cell_at (i := 0) hr4 rfl
  have y1 := cell_at (i := 1) hr4 rfl
  have y2 := cell_at (i := 2) hr4 rfl
  have y3 := cell_at (i := 3) hr4 rfl
  have y4 := cell_at (i := 4) hr4 rfl
  have y5 := cell_at (i := 5) hr4 rfl
  have y6 := cell_at (i := 6) hr4 rfl
  have u0 := frozen_at (i := 0) hr4
  have u1 := frozen_at (i := 1) hr4
  have u2 := frozen_at (i := 2) hr4
  have u3 := frozen_at (i := 3) hr4
  have u4 := frozen_at (i := 4) hr4
  have u5 := frozen_at (i := 5) hr4
  have u6 := frozen_at (i := 6) hr4
  go_wp2_with fail
  go_region_law (first | (go_simp; go_at_call 44; refine (HF.out _ (by repeat (first | exact Kept.refl _ _ | refine Kept.then_drew ?_ | refine Kept.then_drewN ?_ _ | refine Kept.then_alloc ?_ _))).mono ?_; rintro e w5 ⟨rfl, hw5'⟩; have hw5 : All w4 w5 := Kept.trans ((by repeat (first | exact Kept.refl _ _ | refine Kept.then_drew ?_ | refine Kept.then_drewN ?_ _ | refine Kept.then_alloc ?_ _)) : All w4 _) hw5'; have hbX := HB4.out w5 hw5; have hrX := HR4.out w5 hw5; have f0 := cell_at (i := 0) hbX rfl; have z0 := cell_at (i := 0) hrX rfl; have x0 := frozen_at (i := 0) hrX; have f1 := cell_at (i := 1) hbX rfl; have z1 := cell_at (i := 1) hrX rfl; have x1 := frozen_at (i := 1) hrX; have f2 := cell_at (i := 2) hbX rfl; have z2 := cell_at (i := 2) hrX rfl; have x2 := frozen_at (i := 2) hrX; have f3 := cell_at (i := 3) hbX rfl; have z3 := cell_at (i := 3) hrX rfl; have x3 := frozen_at (i := 3) hrX; have f4 := cell_at (i := 4) hbX rfl; have z4 := cell_at (i := 4) hrX rfl; have x4 := frozen_at (i := 4) hrX; have f5 := cell_at (i := 5) hbX rfl; have z5 := cell_at (i := 5) hrX rfl; have x5 := frozen_at (i := 5) hrX; have f6 := cell_at (i := 6) hbX rfl; have z6 := cell_at (i := 6) hrX rfl; have x6 := frozen_at (i := 6) hrX))
  all_goals
    have hke : Kept (fun k => k ≠ rb) w5 (((((((w5.setCell ⟨rb, 0, none⟩ (.slice a0 l0 c0)).setCell ⟨rb, 1, none⟩ (.slice a1 l1 c1)).setCell ⟨rb, 2, none⟩ (.slice a2 l2 c2)).setCell ⟨rb, 3, none⟩ (.slice a3 l3 c3)).setCell ⟨rb, 4, none⟩ (.slice a4 l4 c4)).setCell ⟨rb, 5, none⟩ (.int .i64 s.due)).setCell ⟨rb, 6, none⟩ (.int .i64 s.reply)) := (((((((Kept.refl _ _).then_setCell _ _ (fun h => h rfl)).then_setCell _ _ (fun h => h rfl)).then_setCell _ _ (fun h => h rfl)).then_setCell _ _ (fun h => h rfl)).then_setCell _ _ (fun h => h rfl)).then_setCell _ _ (fun h => h rfl)).then_setCell _ _ (fun h => h rfl)
    have hrn : NoStr w5 rb := NoStr.of hrX (by intro v hv z; simp at hv; rcases hv with rfl | rfl | rfl <;> exact fun h => by cases h)
    have hfi := Lib.hid ((his4.keep hw5.all).past hrn hke)
    have hfx := Lib.hid ((hsx.keep RRev.ok hw5.all).past RRev.isOff RRev.ok hrn hke)
    have hfs := Lib.hid ((((((((hs4.keep hw5).set ⟨rb, 0, none⟩ (.slice a0 l0 c0) (by dsimp only; omega)).set ⟨rb, 1, none⟩ (.slice a1 l1 c1) (by dsimp only; omega)).set ⟨rb, 2, none⟩ (.slice a2 l2 c2) (by dsimp only; omega)).set ⟨rb, 3, none⟩ (.slice a3 l3 c3) (by dsimp only; omega)).set ⟨rb, 4, none⟩ (.slice a4 l4 c4) (by dsimp only; omega)).set ⟨rb, 5, none⟩ (.int .i64 s.due) (by dsimp only; omega)).set ⟨rb, 6, none⟩ (.int .i64 s.reply) (by dsimp only; omega))
    have hfw := Lib.hid ((((((((hw4.trans hw5.all).then_setNew ⟨rb, 0, none⟩ (.slice a0 l0 c0) (by dsimp only; omega)).then_setNew ⟨rb, 1, none⟩ (.slice a1 l1 c1) (by dsimp only; omega)).then_setNew ⟨rb, 2, none⟩ (.slice a2 l2 c2) (by dsimp only; omega)).then_setNew ⟨rb, 3, none⟩ (.slice a3 l3 c3) (by dsimp only; omega)).then_setNew ⟨rb, 4, none⟩ (.slice a4 l4 c4) (by dsimp only; omega)).then_setNew ⟨rb, 5, none⟩ (.int .i64 s.due) (by dsimp only; omega)).then_setNew ⟨rb, 6, none⟩ (.int .i64 s.reply) (by dsimp only; omega))
    have j0 := heap_setCell_at w5 rb 0 (.slice a0 l0 c0) _ _ _ hrX
    have j1 := heap_setCell_at (w5.setCell ⟨rb, 0, none⟩ (.slice a0 l0 c0)) rb 1 (.slice a1 l1 c1) _ _ _ j0
    have j2 := heap_setCell_at ((w5.setCell ⟨rb, 0, none⟩ (.slice a0 l0 c0)).setCell ⟨rb, 1, none⟩ (.slice a1 l1 c1)) rb 2 (.slice a2 l2 c2) _ _ _ j1
    have j3 := heap_setCell_at (((w5.setCell ⟨rb, 0, none⟩ (.slice a0 l0 c0)).setCell ⟨rb, 1, none⟩ (.slice a1 l1 c1)).setCell ⟨rb, 2, none⟩ (.slice a2 l2 c2)) rb 3 (.slice a3 l3 c3) _ _ _ j2
    have j4 := heap_setCell_at ((((w5.setCell ⟨rb, 0, none⟩ (.slice a0 l0 c0)).setCell ⟨rb, 1, none⟩ (.slice a1 l1 c1)).setCell ⟨rb, 2, none⟩ (.slice a2 l2 c2)).setCell ⟨rb, 3, none⟩ (.slice a3 l3 c3)) rb 4 (.slice a4 l4 c4) _ _ _ j3
    have j5 := heap_setCell_at (((((w5.setCell ⟨rb, 0, none⟩ (.slice a0 l0 c0)).setCell ⟨rb, 1, none⟩ (.slice a1 l1 c1)).setCell ⟨rb, 2, none⟩ (.slice a2 l2 c2)).setCell ⟨rb, 3, none⟩ (.slice a3 l3 c3)).setCell ⟨rb, 4, none⟩ (.slice a4 l4 c4)) rb 5 (.int .i64 s.due) _ _ _ j4
    have j6 := heap_setCell_at ((((((w5.setCell ⟨rb, 0, none⟩ (.slice a0 l0 c0)).setCell ⟨rb, 1, none⟩ (.slice a1 l1 c1)).setCell ⟨rb, 2, none⟩ (.slice a2 l2 c2)).setCell ⟨rb, 3, none⟩ (.slice a3 l3 c3)).setCell ⟨rb, 4, none⟩ (.slice a4 l4 c4)).setCell ⟨rb, 5, none⟩ (.int .i64 s.due)) rb 6 (.int .i64 s.reply) _ _ _ j5
    have hfin : (((((((w5.setCell ⟨rb, 0, none⟩ (.slice a0 l0 c0)).setCell ⟨rb, 1, none⟩ (.slice a1 l1 c1)).setCell ⟨rb, 2, none⟩ (.slice a2 l2 c2)).setCell ⟨rb, 3, none⟩ (.slice a3 l3 c3)).setCell ⟨rb, 4, none⟩ (.slice a4 l4 c4)).setCell ⟨rb, 5, none⟩ (.int .i64 s.due)).setCell ⟨rb, 6, none⟩ (.int .i64 s.reply)).heap[rb]? = some (.cells #[.slice a0 l0 c0, .slice a1 l1 c1, .slice a2 l2 c2, .slice a3 l3 c3, .slice a4 l4 c4, .int .i64 s.due, .int .i64 s.reply] 31 (0, 0)) := by simpa using j6
    have q0 := cell_at (i := 0) hfin rfl
    have q1 := cell_at (i := 1) hfin rfl
    have q2 := cell_at (i := 2) hfin rfl
    have q3 := cell_at (i := 3) hfin rfl
    have q4 := cell_at (i := 4) hfin rfl
    have q5 := cell_at (i := 5) hfin rfl
    have q6 := cell_at (i := 6) hfin rfl
    clear hke hfin hrn hbX hrX j0 j1 j2 j3 j4 j5 j6
    go_wp2_with fail
    refine bodyPost_ret (v := .tuple #[.agg #[.slice a0 l0 c0, .slice a1 l1 c1, .slice a2 l2 c2, .slice a3 l3 c3, .slice a4 l4 c4, .int .i64 s.due, .int .i64 s.reply], .slice al ll cl, .int .i64 ef]) ?_ rfl ⟨_, n4, rfl, ⟨a0, a1, a2, a3, a4, l0, c0, l1, c1, l2, c2, l3, c3, l4, c4, s, al, ll, cl, xs, by rw [HEF.out], hfi.out, ⟨hb0, hb1, hb2, hb3, hb4⟩, hxl, hcl, hfx.out⟩, by omega, by omega, hfs.out, hfw.out⟩
    simp [results, Tryz.results7, go_sem, q0, q1, q2, q3, q4, q5, q6]
end Go.Proofs.YthhmgblcccbdaaaGreatDoor

/- The law ReviewLatest, walked. -/
namespace Go.Proofs.YthhmgblcccbdaaaGreatDoor
open Go.RowKit

theorem Glob.ltL {w : World} (h : Glob w) : 1 < w.heap.size ∧ 2 < w.heap.size ∧ 0 < w.heap.size := by
  obtain ⟨m, hm⟩ := h.most
  exact ⟨lt_of_cell (h.tabs.1 0 (by decide)), lt_of_cell (h.tabs.2 0 (by decide)).1, lt_of_cell hm⟩
set_option maxRecDepth 100000 in
set_option maxHeartbeats 12800000 in
theorem reviewLatest_walk (a : Option Addr) (len cap : Nat) (w : World) (h : IsRow w a len cap) (hG : Glob w) (hP : Pow w) :
    Calls Tryz.prog 4 #[.slice a len cap] w fun e w' => e = .returned (.bool true) ∧ Below w.heap.size w w' := by
  have hst := h.start
  obtain ⟨σ, hσ⟩ : ∃ σ : St, σ = ⟨w.heap.size, a, len, cap⟩ := ⟨_, rfl⟩
  have hσb : σ.b = w.heap.size := by rw [hσ]
  rw [← hσ] at hst
  have hptr : (Value.pointer (some ⟨w.heap.size, 0, none⟩)) = Value.pointer (some ⟨σ.b, 0, none⟩) := by rw [hσb]
  have Hptr := Lib.hid hptr
  have Hσ := Lib.hid hσb
  have hk0 : But σ.b w (w.alloc (.cells #[.slice a len cap, .int .i64 0] 25)) := Kept.alloc _ _ _
  have hgl := hG.ltL
  have hpl := hP.lt
  have HG := Lib.hid (fun (wx : World) (k : But σ.b w wx) => (⟨hG.kept k (by omega) (by omega) (by omega), hP.kept k (by omega)⟩ : GlobP wx))
  clear hσ hσb hptr h hG hgl hP hpl
  go_enter Tryz.func4, Tryz.ntmps4
  go_upto_region 2 with fail
  simp only [Hptr.out]
  generalize w.alloc (.cells #[.slice a len cap, .int .i64 0] 25) = w0 at *
  have hl0 := hst.lt
  go_wp2_with fail
  refine (range_any σ 0 0 8 _ hst (by omega) (by omega) (by omega) (by omega)).mono ?_
  rintro e w1 ⟨v, n1, rfl, ⟨r, rfl, hr1, hr2⟩, -, hn1, hs1, hb1⟩
  obtain ⟨M, rfl⟩ := Int.eq_ofNat_of_zero_le hr1
  have hM : M ≤ 8 := by omega
  have hw1 := hk0.trans hb1
  clear hr1 hr2 hst hb1 hk0
  go_wp2_with fail
  refine (scene_any σ n1 _ M hs1 (by omega) (by omega) (fun wx k => (HG.out wx (hw1.trans k)).g)).mono ?_
  rintro e w2 ⟨v, n2, rfl, ⟨a0, a1, a2, a3, a4, l0, c0, l1, c1, l2, c2, l3, c3, l4, c4, s, al, ll, cl, xs, rfl, his, ⟨hb0, hb1, hb2, hb3, hb4⟩, hll, hcl, hsx⟩, -, hn2, hs2, hk2⟩
  have hw2 := hw1.trans hk2
  have hl2' := hs2.lt
  clear hs1 hw1 hk2
  have hk3 : All w2 (w2.alloc (.cells #[.slice a0 l0 c0, .slice a1 l1 c1, .slice a2 l2 c2, .slice a3 l3 c3, .slice a4 l4 c4, .int .i64 s.due, .int .i64 s.reply] 31)) := Kept.alloc _ _ _
  have hx3 := heap_at w2 (.cells #[.slice a0 l0 c0, .slice a1 l1 c1, .slice a2 l2 c2, .slice a3 l3 c3, .slice a4 l4 c4, .int .i64 s.due, .int .i64 s.reply] 31) _ rfl
  obtain ⟨xb, hxb⟩ : ∃ b, b = w2.heap.size := ⟨_, rfl⟩
  have HXB := Lib.hid hxb
  rw [← hxb] at hx3
  have hxs : σ.b < xb := by omega
  have his3 := his.keep hk3.all
  have hsx3 := hsx.keep RRev.ok hk3.all
  have hs3 := hs2.keep hk3
  have hw3 := hw2.trans hk3.all
  clear hxb his hsx hs2 hw2 hk3
  obtain ⟨ef, hef⟩ : ∃ z, z = revsF s xs := ⟨_, rfl⟩
  have HEF := Lib.hid hef
  rw [← hef]
  clear hef
  go_upto_region 3 with fail
  simp only [← HXB.out]
  generalize w2.alloc (.cells #[.slice a0 l0 c0, .slice a1 l1 c1, .slice a2 l2 c2, .slice a3 l3 c3, .slice a4 l4 c4, .int .i64 s.due, .int .i64 s.reply] 31) = w3 at *
  have e0 := cell_at (i := 0) hx3 rfl
  have e1 := cell_at (i := 1) hx3 rfl
  have e2 := cell_at (i := 2) hx3 rfl
  have e3 := cell_at (i := 3) hx3 rfl
  have e4 := cell_at (i := 4) hx3 rfl
  have e5 := cell_at (i := 5) hx3 rfl
  have e6 := cell_at (i := 6) hx3 rfl
  have hl3 := hs3.lt
  go_wp2_with fail
  refine (pairOfS_any σ n2 _ a0 l0 c0 a1 l1 c1 a2 l2 c2 a3 l3 c3 a4 l4 c4 s hs3 (by omega) his3 (by omega)).mono ?_
  rintro e w4 ⟨v, n4, rfl, ⟨y, rfl⟩, -, hn4, hs4, hk4⟩
  clear e0 e1 e2 e3 e4 e5 e6
  have hw4 := hw3.trans hk4
  have his4 := his3.keep hk4
  have hsx4 := hsx3.keep RRev.ok hk4
  have hx4 := hk4.heap hx3 (by omega)
  have hl4 := hs4.lt
  clear his3 hsx3 hx3 hs3 hw3 hk4
  go_wp2_with fail
  refine (moment10_any σ n4 _ hs4 (by omega)).mono ?_
  rintro e w5 ⟨v, n5, rfl, ⟨tm, rfl, htm1, htm2⟩, -, hn5, hs5, hk5⟩
  have hw5 := hw4.trans hk5
  have his5 := (his4.keep hk5).mono (fun _ _ => trivial)
  have hsx5 := (hsx4.keep RRev.ok hk5).mono RRev.ok (fun _ _ => trivial)
  have hx5 := hk5.heap hx4 (by omega)
  have hl5 := hs5.lt
  clear his4 hsx4 hx4 hs4 hw4 hk5 hs5
  have hk6 : All w5 (w5.alloc (.cells #[.string y.paper, .string y.person] 38)) := Kept.alloc _ _ _
  have hp6 := heap_at w5 (.cells #[.string y.paper, .string y.person] 38) _ rfl
  obtain ⟨pb, hpb⟩ : ∃ b, b = w5.heap.size := ⟨_, rfl⟩
  have HPB := Lib.hid hpb
  rw [← hpb] at hp6
  have hx6 := hk6.heap hx5 trivial
  have his6 := his5.keep hk6
  have hsx6 := hsx5.keep RRev.ok hk6
  have hw6 := hw5.trans hk6.all
  clear hpb hx5 his5 hsx5 hw5 hk6
  go_upto_region 4 with fail
  simp only [← HPB.out]
  generalize w5.alloc (.cells #[.string y.paper, .string y.person] 38) = w6 at *
  have HG6 := Lib.hid (fun (wy : World) (k : All w6 wy) => HG.out wy (hw6.trans k.all))
  have hend := Lib.hid (show ∀ wy, All w6 wy → Below w.heap.size w wy from fun wy k => (hw6.trans k.all).below (Nat.le_refl _) (fun k hk => by have := Hσ.out; omega))
  have HXP := Lib.hid (fun (wy : World) (k : All w6 wy) => (⟨k.heap hx6 trivial, k.heap hp6 trivial⟩ : wy.heap[xb]? = _ ∧ wy.heap[pb]? = _))
  have HIS := Lib.hid (fun (wy : World) (k : All w6 wy) => his6.keep k)
  obtain ⟨ts, hts, hst6, hans6⟩ := hsx6.raws
  have HST := Lib.hid (fun (wy : World) (k : All w6 wy) => hst6.keep RRaw.ok k)
  have HANS := Lib.hid (fun (wy : World) (k : All w6 wy) (z : Raw) (hz : z ∈ ts) => (hans6 z hz).keep RAns.ok k)
  have HSM := Lib.hid (raws_small hst6)
  have HL := Lib.hid (latest_any a0 l0 c0 a1 l1 c1 a2 l2 c2 a3 l3 c3 a4 l4 c4 s al ll cl xs ts y tm w6 his6 hsx6 hst6 hans6 (by omega) hcl (HG6.out w6 (Kept.refl _ _)).g)
  obtain ⟨er, her⟩ : ∃ z, z = latE s xs y tm := ⟨_, rfl⟩
  have HER := Lib.hid her
  rw [← her] at HL
  obtain ⟨o, ho⟩ : ∃ z, z = lastO ts (y.paper, y.person) tm false := ⟨_, rfl⟩
  have HO := Lib.hid ho
  rw [← ho] at HL
  obtain ⟨pf, hpf⟩ : ∃ z : Int, z = if inP s.pairs y.paper y.person = true then 0 else 8 := ⟨_, rfl⟩
  have HPF := Lib.hid hpf
  obtain ⟨mf, hmf⟩ : ∃ z : Int, z = if 0 ≤ tm ∧ tm < 5761440 then 0 else 1 := ⟨_, rfl⟩
  have HMF := Lib.hid hmf
  have HFV := Lib.hid (show firstV [ef, pf, mf] = er from by rw [her, latE, hpf, hmf, HEF.out])
  have e0 := cell_at (i := 0) hx6 rfl
  have e1 := cell_at (i := 1) hx6 rfl
  have e2 := cell_at (i := 2) hx6 rfl
  have e3 := cell_at (i := 3) hx6 rfl
  have e4 := cell_at (i := 4) hx6 rfl
  have e5 := cell_at (i := 5) hx6 rfl
  have e6 := cell_at (i := 6) hx6 rfl
  have d0 := cell_at (i := 0) hp6 rfl
  have d1 := cell_at (i := 1) hp6 rfl
  clear her ho hpf hmf hts hx6 hp6 his6 hsx6 hst6 hans6 hw6
  go_wp2_with fail
  refine HL.out.mono ?_
  rintro e w7 ⟨⟨x, aa, ac, rfl, hsl, hsm, hxe⟩, hw7⟩
  have hk8 : All w7 (w7.alloc (.cells (revC x aa ac) 45)) := Kept.alloc _ _ _
  have hr8 := heap_at w7 (.cells (revC x aa ac) 45) _ rfl
  obtain ⟨rb, hrb⟩ : ∃ b, b = w7.heap.size := ⟨_, rfl⟩
  have HRB := Lib.hid hrb
  rw [← hrb] at hr8
  have hw8 := hw7.trans hk8
  have hsl8 := hsl.keep RAns.ok hk8
  have HXE := Lib.hid hxe
  have HSMX := Lib.hid hsm
  clear hrb hxe hsl hsm hk8 e0 e1 e2 e3 e4 e5 e6 d0 d1
  obtain ⟨is, his'⟩ : ∃ b : Bool, b = (decide (er = 0) && o.isSome) := ⟨_, rfl⟩
  have HIS2 := Lib.hid his'
  rw [← his']
  clear his'
  go_upto_region 5 with fail
  simp only [← HRB.out]
  generalize w7.alloc (.cells (revC x aa ac) 45) = w8 at *
  obtain ⟨hx8, hp8⟩ := HXP.out _ hw8
  have e0 := cell_at (i := 0) hx8 rfl
  have e1 := cell_at (i := 1) hx8 rfl
  have e2 := cell_at (i := 2) hx8 rfl
  have e3 := cell_at (i := 3) hx8 rfl
  have e4 := cell_at (i := 4) hx8 rfl
  have e5 := cell_at (i := 5) hx8 rfl
  have e6 := cell_at (i := 6) hx8 rfl
  have d0 := cell_at (i := 0) hp8 rfl
  have d1 := cell_at (i := 1) hp8 rfl
  clear hx8 hp8
  have HR8 := Lib.hid (fun (wy : World) (k : All w8 wy) => k.heap hr8 trivial)
  have HSL8 := Lib.hid (fun (wy : World) (k : All w8 wy) => hsl8.keep RAns.ok k)
  clear hr8 hsl8
  go_wp2_with fail
  refine (pairFault_any a0 l0 c0 a1 l1 c1 a2 l2 c2 a3 l3 c3 a4 l4 c4 s y _ (HIS.out _ hw8)).mono ?_
  rintro e w9 ⟨rfl, hw9⟩
  rw [← HPF.out]
  have hw89 := hw8.trans hw9
  clear e0 e1 e2 e3 e4 e5 e6 d0 d1
  go_wp2_with fail
  refine (momentFault_any tm _).mono ?_
  rintro e w' ⟨rfl, rfl⟩
  rw [← HMF.out]
  go_wp2_with fail
  refine (errsV_any (some ⟨w9.heap.size, 0, none⟩) 3 3 [ef, pf, mf] _ (Sl.lit_ints _ (heap_at _ _ _ rfl) rfl trivial) (by omega)).mono ?_
  rintro e w' ⟨rfl, hh⟩
  subst hh
  rw [HFV.out]
  have hwa := hw9.then_alloc (.cells #[.int .i64 ef, .int .i64 pf, .int .i64 mf] 33)
  have hr9 := HR8.out _ hwa
  have q0 := cell_at (i := 0) hr9 rfl
  have q1 := cell_at (i := 1) hr9 rfl
  have q2 := cell_at (i := 2) hr9 rfl
  have q3 := cell_at (i := 3) hr9 rfl
  have q4 := cell_at (i := 4) hr9 rfl
  have q5 := cell_at (i := 5) hr9 rfl
  have q6 := cell_at (i := 6) hr9 rfl
  have hans9 := HSL8.out _ hwa
  have hkk := hw8.trans hwa
  clear hr9
  by_cases hz : er = 0
  case neg =>
    have hd : (er != 0) = true := by simpa using hz
    have hisf : is = false := by rw [HIS2.out, decide_eq_false hz]; rfl
    subst hisf
    have hx0 : x = raw0.1 := by rw [HXE.out, if_neg hz]
    have HSR := Lib.hid (sameR_any x aa ac none 0 (w9.alloc (.cells #[.int .i64 ef, .int .i64 pf, .int .i64 mf] 33)) HSMX.out hans9 (by rw [hx0]; exact Sl.nil _ _ _ _ _) (HG6.out _ hkk))
    have hzz : revC x none 0 = #[.int .i64 0, .int .i64 0, .string ⟨#[]⟩, .string ⟨#[]⟩, .string ⟨#[]⟩, .bool false, .slice none 0 0] := by rw [hx0]; rfl
    rw [hzz] at HSR
    clear hz hx0 hzz hans9
    go_wp2_with fail
    refine HSR.out.mono ?_
    rintro e wc ⟨rfl, hwc⟩
    have hkc := hkk.trans hwc
    go_wp2_with fail
    refine (asked_any _ (HG6.out _ hkc).g).mono ?_
    rintro e we ⟨rfl, hwe⟩
    go_wp2_with fail
    go_ret
    exact ⟨rfl, hend.out _ (hkc.trans hwe)⟩
  case pos =>
    subst hz
    have hd : ((0 : Int) != 0) = false := rfl
    have hise : is = o.isSome := by rw [HIS2.out, decide_eq_true rfl]; rfl
    have hxo : x = (o.getD raw0).1 := by rw [HXE.out, if_pos rfl]
    have HXO := Lib.hid hxo
    have HISE := Lib.hid hise
    clear hxo hise
    have hp9 := (HXP.out _ hkk).2
    have d0 := cell_at (i := 0) hp9 rfl
    have d1 := cell_at (i := 1) hp9 rfl
    clear hp9 q0 q1 q2 q3 q4 q5 q6
    have hstl := (HST.out _ hkk).len
    go_wp2_with fail
    refine (latestOf_any al ll cl ts (y.paper, y.person) tm _ (HST.out _ hkk) (by omega)).mono ?_
    rintro e wc ⟨rfl, hwc⟩
    rw [← HO.out, ← HISE.out]
    obtain ⟨⟨x2, a2', c2'⟩, hy⟩ : ∃ z, z = o.getD raw0 := ⟨_, rfl⟩
    have hx2 : x2 = x := by rw [HXO.out, ← hy]
    subst hx2
    rw [← hy]
    rw [show (encRaw (x2, a2', c2')).toArray = revC x2 a2' c2' from rfl]
    have hkc := hkk.trans hwc
    have ha2 : Sl RAns 4 (fun _ => True) wc a2' x2.answers.length x2.answers := by
      cases hoo : o with
      | none =>
        rw [hoo] at hy
        have e1 : (x2, a2', c2') = raw0 := hy
        injection e1 with e1 e2
        rw [e1]
        exact Sl.nil _ _ _ _ _
      | some z =>
        rw [hoo] at hy
        have e1 : (x2, a2', c2') = z := hy
        have hmem := lastO_mem (HO.out.symm.trans hoo)
        rw [← e1] at hmem
        exact HANS.out _ hkc _ hmem
    have hkd : All wc (wc.alloc (.cells (revC x2 a2' c2') 45)) := Kept.alloc _ _ _
    have hr2 := heap_at wc (.cells (revC x2 a2' c2') 45) _ rfl
    have hans2 := ha2.keep RAns.ok hkd
    have hkx := hkc.trans hkd
    have hr1 := HR8.out _ ((hwa.trans hwc).trans hkd)
    have hans1 := HSL8.out _ ((hwa.trans hwc).trans hkd)
    have q0 := cell_at (i := 0) hr1 rfl
    have q1 := cell_at (i := 1) hr1 rfl
    have q2 := cell_at (i := 2) hr1 rfl
    have q3 := cell_at (i := 3) hr1 rfl
    have q4 := cell_at (i := 4) hr1 rfl
    have q5 := cell_at (i := 5) hr1 rfl
    have q6 := cell_at (i := 6) hr1 rfl
    have u0 := cell_at (i := 0) hr2 rfl
    have u1 := cell_at (i := 1) hr2 rfl
    have u2 := cell_at (i := 2) hr2 rfl
    have u3 := cell_at (i := 3) hr2 rfl
    have u4 := cell_at (i := 4) hr2 rfl
    have u5 := cell_at (i := 5) hr2 rfl
    have u6 := cell_at (i := 6) hr2 rfl
    have HSR := Lib.hid (sameR_any x2 aa ac a2' c2' (wc.alloc (.cells (revC x2 a2' c2') 45)) HSMX.out hans1 hans2 (HG6.out _ hkx))
    clear hr1 hr2 hans1 hans2 ha2 hy hans9 d0 d1 hstl
    go_wp2_with fail
    refine HSR.out.mono ?_
    rintro e wf ⟨rfl, hwf⟩
    have hkf := hkx.trans hwf
    go_wp2_with fail
    refine (asked_any _ (HG6.out _ hkf).g).mono ?_
    rintro e we ⟨rfl, hwe⟩
    go_wp2_with fail
    go_ret
    exact ⟨rfl, hend.out _ (hkf.trans hwe)⟩
end Go.Proofs.YthhmgblcccbdaaaGreatDoor
