/- scene: a setup with reviews. -/
import Derived.Test.YthhmgblcccbdaaaGreatDoorBv
import Derived.Test.YthhmgblcccbdaaaGreatDoorBz
import Derived.Test.YthhmgblcccbdaaaGreatDoorEt
import Derived.Test.YthhmgblcccbdaaaGreatDoorAj
import Derived.Test.YthhmgblcccbdaaaGreatDoorWi
namespace Go.Proofs.YthhmgblcccbdaaaGreatDoor
open Go.RowKit

/-- A setup with reviews, and its error. -/
def PScene (σ : St) (hi : Nat) (v : Value) (w : World) : Prop := ∃ (a0 a1 a2 a3 a4 : Option Addr) (l0 c0 l1 c1 l2 c2 l3 c3 l4 c4 : Nat) (s : Set7) (al : Option Addr) (ll cl : Nat) (xs : List Rev), v = .tuple #[.agg #[.slice a0 l0 c0, .slice a1 l1 c1, .slice a2 l2 c2, .slice a3 l3 c3, .slice a4 l4 c4, .int .i64 s.due, .int .i64 s.reply], .slice al ll cl, .int .i64 (revsF s xs)] ∧
  SetIs (fun k => k ≠ σ.b) w a0 l0 a1 l1 a2 l2 a3 l3 a4 l4 s ∧ (l0 ≤ 30 ∧ l1 ≤ 30 ∧ l2 ≤ 30 ∧ l3 ≤ 30 ∧ l4 ≤ 30) ∧ ll ≤ hi ∧ ll ≤ cl ∧ Sl RRev 7 (fun k => k ≠ σ.b) w al ll xs
set_option maxRecDepth 100000 in
set_option maxHeartbeats 12800000 in
theorem scene_any (σ : St) (n0 : Nat) (w0 : World) (M : Nat) (hs0 : Str σ w0 n0) (hn : n0 ≤ 4611686018426900000) (hM : M ≤ 12) (hg : ∀ wx, But σ.b w0 wx → Glob wx) :
    Calls Tryz.prog 7 #[.pointer (some ⟨σ.b, 0, none⟩), .int .i64 M] w0 (StPost σ n0 61000 w0 (PScene σ M)) := by
  have hl0 := hs0.lt
  have HG := Lib.hid hg
  clear hg
  have hk1 : All w0 (w0.alloc (.cells #[.slice none 0 0, .slice none 0 0, .slice none 0 0, .slice none 0 0, .slice none 0 0, .int .i64 0, .int .i64 0] 31)) := Kept.alloc _ _ _
  have hr1 := heap_at w0 (.cells #[.slice none 0 0, .slice none 0 0, .slice none 0 0, .slice none 0 0, .slice none 0 0, .int .i64 0, .int .i64 0] 31) _ rfl
  have hs1 := hs0.keep hk1
  have hw1 : But σ.b w0 _ := hk1.all
  obtain ⟨rb, hrb⟩ : ∃ b, b = w0.heap.size := ⟨_, rfl⟩
  have HRB := Lib.hid hrb
  rw [← hrb] at hr1
  have hrs : σ.b < rb := by omega
  have hrb0 : w0.heap.size ≤ rb := by omega
  have hrb1 : rb < (w0.alloc (.cells #[.slice none 0 0, .slice none 0 0, .slice none 0 0, .slice none 0 0, .slice none 0 0, .int .i64 0, .int .i64 0] 31)).heap.size := by rw [hrb]; simp
  have hz01 : w0.heap.size ≤ (w0.alloc (.cells #[.slice none 0 0, .slice none 0 0, .slice none 0 0, .slice none 0 0, .slice none 0 0, .int .i64 0, .int .i64 0] 31)).heap.size := by simp
  clear hrb
  go_enter Tryz.func7, Tryz.ntmps7
  go_upto_region 1 with fail
  simp only [← HRB.out]
  generalize w0.alloc (.cells #[.slice none 0 0, .slice none 0 0, .slice none 0 0, .slice none 0 0, .slice none 0 0, .int .i64 0, .int .i64 0] 31) = w1 at *
  clear hk1 hs0
  have hl1 := hs1.lt
  go_wp2_with fail
  refine (setup10_any σ n0 _ hs1 (by omega) (fun wx k => HG.out wx (hw1.trans k))).mono ?_
  rintro e w2 ⟨v, n2, rfl, ⟨a0, a1, a2, a3, a4, c0, c1, c2, c3, c4, s, rfl, his, hb0, hb1, hb2, hb3, hb4⟩, hA2, hB2, hs2, hk2⟩
  have hw2 := hw1.trans hk2
  have hr2 := hk2.heap hr1 (by omega)
  have hz12 := hk2.size
  clear hr1 hs1 hw1 hk2
  have hl2 := hs2.lt
  obtain ⟨l0, hle0⟩ : ∃ l, l = s.sheet.length := ⟨_, rfl⟩
  obtain ⟨l1, hle1⟩ : ∃ l, l = s.papers.length := ⟨_, rfl⟩
  obtain ⟨l2, hle2⟩ : ∃ l, l = s.pairs.length := ⟨_, rfl⟩
  obtain ⟨l3, hle3⟩ : ∃ l, l = s.barred.length := ⟨_, rfl⟩
  obtain ⟨l4, hle4⟩ : ∃ l, l = s.chairs.length := ⟨_, rfl⟩
  rw [← hle0, ← hle1, ← hle2, ← hle3, ← hle4] at his
  rw [← hle0] at hb0
  rw [← hle1] at hb1
  rw [← hle2] at hb2
  rw [← hle3] at hb3
  rw [← hle4] at hb4
  simp only [setC, ← hle0, ← hle1, ← hle2, ← hle3, ← hle4]
  clear hle0 hle1 hle2 hle3 hle4
  have hk3 : All w2 (w2.alloc (.cells #[.slice a0 l0 c0, .slice a1 l1 c1, .slice a2 l2 c2, .slice a3 l3 c3, .slice a4 l4 c4, .int .i64 s.due, .int .i64 s.reply] 31)) := Kept.alloc _ _ _
  have hb3' := heap_at w2 (.cells #[.slice a0 l0 c0, .slice a1 l1 c1, .slice a2 l2 c2, .slice a3 l3 c3, .slice a4 l4 c4, .int .i64 s.due, .int .i64 s.reply] 31) _ rfl
  obtain ⟨bb, hbb⟩ : ∃ b, b = w2.heap.size := ⟨_, rfl⟩
  have HBB := Lib.hid hbb
  rw [← hbb] at hb3'
  have hrbb : rb < bb := by omega
  have his3 := his.keep hk3.all
  have hs3 := hs2.keep hk3
  have hw3 := hw2.trans hk3.all
  have hr3 := hk3.heap hr2 trivial
  clear hbb his hs2 hw2 hr2 hk3
  go_upto_region 2 with fail
  simp only [← HBB.out]
  generalize w2.alloc (.cells #[.slice a0 l0 c0, .slice a1 l1 c1, .slice a2 l2 c2, .slice a3 l3 c3, .slice a4 l4 c4, .int .i64 s.due, .int .i64 s.reply] 31) = w3 at *
  have hl3 := hs3.lt
  have e0 := cell_at (i := 0) hb3' rfl
  have e1 := cell_at (i := 1) hb3' rfl
  have e2 := cell_at (i := 2) hb3' rfl
  have e3 := cell_at (i := 3) hb3' rfl
  have e4 := cell_at (i := 4) hb3' rfl
  have e5 := cell_at (i := 5) hb3' rfl
  have e6 := cell_at (i := 6) hb3' rfl
  go_wp2_with fail
  refine (reviews_any σ n2 _ a0 l0 c0 a1 l1 c1 a2 l2 c2 a3 l3 c3 a4 l4 c4 s M hs3 (by omega) his3 (by omega) (by omega) hM (fun wx k => HG.out wx (hw3.trans k))).mono ?_
  rintro e w4 ⟨v, n4, rfl, ⟨xs, hxl, hac⟩, hA4, hB4, hs4, hk4⟩
  have hw4 := hw3.trans hk4
  have his4 := his3.keep hk4
  have hr4 := hk4.heap hr3 (by omega)
  have hb4' := hk4.heap hb3' (by omega)
  clear hs3 his3 hr3 hb3' hw3 e0 e1 e2 e3 e4 e5 e6
  obtain ⟨al, cl, rfl, hcl⟩ := hac.form
  have hsx : Sl RRev 7 (fun k => k ≠ σ.b) w4 al xs.length xs := by
    obtain ⟨al', cl', he, hsl⟩ := hac.sl RRev.ok (by decide) (G := fun k => k ≠ σ.b) (fun _ h => h) (fun j hj => by have := (hac.lt j hj).1; omega)
    injection he with h1 h2 h3
    subst h1
    exact hsl
  have hxty := hac.notType hr4 (by decide)
  obtain ⟨ll, hll⟩ : ∃ l, l = xs.length := ⟨_, rfl⟩
  rw [← hll] at hcl hsx hxl ⊢
  clear hll hac hk4
  have HF := Lib.hid (fun (wx : World) (k : All w4 wx) => reviewsFault_any a0 l0 c0 a1 l1 c1 a2 l2 c2 a3 l3 c3 a4 l4 c4 s al ll cl xs wx ((his4.mono (fun _ _ => trivial)).keep k) ((hsx.mono RRev.ok (fun _ _ => trivial)).keep RRev.ok k) (by omega) hcl (HG.out wx (hw4.trans k.all)))
  obtain ⟨ef, hef⟩ : ∃ z, z = revsF s xs := ⟨_, rfl⟩
  have HEF := Lib.hid hef
  rw [← hef] at HF
  clear hef
  have e0 := cell_at (i := 0) hb4' rfl
  have e1 := cell_at (i := 1) hb4' rfl
  have e2 := cell_at (i := 2) hb4' rfl
  have e3 := cell_at (i := 3) hb4' rfl
  have e4 := cell_at (i := 4) hb4' rfl
  have e5 := cell_at (i := 5) hb4' rfl
  have e6 := cell_at (i := 6) hb4' rfl
  have HB4 := Lib.hid (fun (wx : World) (k : All w4 wx) => k.heap hb4' trivial)
  have HR4 := Lib.hid (fun (wx : World) (k : All w4 wx) => k.heap hr4 trivial)
  have y0 := cell_at (i := 0) hr4 rfl
  have y1 := cell_at (i := 1) hr4 rfl
  have y2 := cell_at (i := 2) hr4 rfl
  have y3 := cell_at (i := 3) hr4 rfl
  have y4 := cell_at (i := 4) hr4 rfl
  have y5 := cell_at (i := 5) hr4 rfl
  have y6 := cell_at (i := 6) hr4 rfl
  have u0 := frozen_at (i := 0) hr4
  have u1 := frozen_at (i := 1) hr4
  have u2 := frozen_at (i := 2) hr4
  have u3 := frozen_at (i := 3) hr4
  have u4 := frozen_at (i := 4) hr4
  have u5 := frozen_at (i := 5) hr4
  have u6 := frozen_at (i := 6) hr4
  go_wp2_with fail
  go_region_law (first | (go_simp; go_at_call 44; refine (HF.out _ (by repeat (first | exact Kept.refl _ _ | refine Kept.then_drew ?_ | refine Kept.then_drewN ?_ _ | refine Kept.then_alloc ?_ _))).mono ?_; rintro e w5 ⟨rfl, hw5'⟩; have hw5 : All w4 w5 := Kept.trans ((by repeat (first | exact Kept.refl _ _ | refine Kept.then_drew ?_ | refine Kept.then_drewN ?_ _ | refine Kept.then_alloc ?_ _)) : All w4 _) hw5'; have hbX := HB4.out w5 hw5; have hrX := HR4.out w5 hw5; have f0 := cell_at (i := 0) hbX rfl; have z0 := cell_at (i := 0) hrX rfl; have x0 := frozen_at (i := 0) hrX; have f1 := cell_at (i := 1) hbX rfl; have z1 := cell_at (i := 1) hrX rfl; have x1 := frozen_at (i := 1) hrX; have f2 := cell_at (i := 2) hbX rfl; have z2 := cell_at (i := 2) hrX rfl; have x2 := frozen_at (i := 2) hrX; have f3 := cell_at (i := 3) hbX rfl; have z3 := cell_at (i := 3) hrX rfl; have x3 := frozen_at (i := 3) hrX; have f4 := cell_at (i := 4) hbX rfl; have z4 := cell_at (i := 4) hrX rfl; have x4 := frozen_at (i := 4) hrX; have f5 := cell_at (i := 5) hbX rfl; have z5 := cell_at (i := 5) hrX rfl; have x5 := frozen_at (i := 5) hrX; have f6 := cell_at (i := 6) hbX rfl; have z6 := cell_at (i := 6) hrX rfl; have x6 := frozen_at (i := 6) hrX))
  all_goals
    have hke : Kept (fun k => k ≠ rb) w5 (((((((w5.setCell ⟨rb, 0, none⟩ (.slice a0 l0 c0)).setCell ⟨rb, 1, none⟩ (.slice a1 l1 c1)).setCell ⟨rb, 2, none⟩ (.slice a2 l2 c2)).setCell ⟨rb, 3, none⟩ (.slice a3 l3 c3)).setCell ⟨rb, 4, none⟩ (.slice a4 l4 c4)).setCell ⟨rb, 5, none⟩ (.int .i64 s.due)).setCell ⟨rb, 6, none⟩ (.int .i64 s.reply)) := (((((((Kept.refl _ _).then_setCell _ _ (fun h => h rfl)).then_setCell _ _ (fun h => h rfl)).then_setCell _ _ (fun h => h rfl)).then_setCell _ _ (fun h => h rfl)).then_setCell _ _ (fun h => h rfl)).then_setCell _ _ (fun h => h rfl)).then_setCell _ _ (fun h => h rfl)
    have hrn : NoStr w5 rb := NoStr.of hrX (by intro v hv z; simp at hv; rcases hv with rfl | rfl | rfl <;> exact fun h => by cases h)
    have hfi := Lib.hid ((his4.keep hw5.all).past hrn hke)
    have hfx := Lib.hid ((hsx.keep RRev.ok hw5.all).past RRev.isOff RRev.ok hrn hke)
    have hfs := Lib.hid ((((((((hs4.keep hw5).set ⟨rb, 0, none⟩ (.slice a0 l0 c0) (by dsimp only; omega)).set ⟨rb, 1, none⟩ (.slice a1 l1 c1) (by dsimp only; omega)).set ⟨rb, 2, none⟩ (.slice a2 l2 c2) (by dsimp only; omega)).set ⟨rb, 3, none⟩ (.slice a3 l3 c3) (by dsimp only; omega)).set ⟨rb, 4, none⟩ (.slice a4 l4 c4) (by dsimp only; omega)).set ⟨rb, 5, none⟩ (.int .i64 s.due) (by dsimp only; omega)).set ⟨rb, 6, none⟩ (.int .i64 s.reply) (by dsimp only; omega))
    have hfw := Lib.hid ((((((((hw4.trans hw5.all).then_setNew ⟨rb, 0, none⟩ (.slice a0 l0 c0) (by dsimp only; omega)).then_setNew ⟨rb, 1, none⟩ (.slice a1 l1 c1) (by dsimp only; omega)).then_setNew ⟨rb, 2, none⟩ (.slice a2 l2 c2) (by dsimp only; omega)).then_setNew ⟨rb, 3, none⟩ (.slice a3 l3 c3) (by dsimp only; omega)).then_setNew ⟨rb, 4, none⟩ (.slice a4 l4 c4) (by dsimp only; omega)).then_setNew ⟨rb, 5, none⟩ (.int .i64 s.due) (by dsimp only; omega)).then_setNew ⟨rb, 6, none⟩ (.int .i64 s.reply) (by dsimp only; omega))
    have j0 := heap_setCell_at w5 rb 0 (.slice a0 l0 c0) _ _ _ hrX
    have j1 := heap_setCell_at (w5.setCell ⟨rb, 0, none⟩ (.slice a0 l0 c0)) rb 1 (.slice a1 l1 c1) _ _ _ j0
    have j2 := heap_setCell_at ((w5.setCell ⟨rb, 0, none⟩ (.slice a0 l0 c0)).setCell ⟨rb, 1, none⟩ (.slice a1 l1 c1)) rb 2 (.slice a2 l2 c2) _ _ _ j1
    have j3 := heap_setCell_at (((w5.setCell ⟨rb, 0, none⟩ (.slice a0 l0 c0)).setCell ⟨rb, 1, none⟩ (.slice a1 l1 c1)).setCell ⟨rb, 2, none⟩ (.slice a2 l2 c2)) rb 3 (.slice a3 l3 c3) _ _ _ j2
    have j4 := heap_setCell_at ((((w5.setCell ⟨rb, 0, none⟩ (.slice a0 l0 c0)).setCell ⟨rb, 1, none⟩ (.slice a1 l1 c1)).setCell ⟨rb, 2, none⟩ (.slice a2 l2 c2)).setCell ⟨rb, 3, none⟩ (.slice a3 l3 c3)) rb 4 (.slice a4 l4 c4) _ _ _ j3
    have j5 := heap_setCell_at (((((w5.setCell ⟨rb, 0, none⟩ (.slice a0 l0 c0)).setCell ⟨rb, 1, none⟩ (.slice a1 l1 c1)).setCell ⟨rb, 2, none⟩ (.slice a2 l2 c2)).setCell ⟨rb, 3, none⟩ (.slice a3 l3 c3)).setCell ⟨rb, 4, none⟩ (.slice a4 l4 c4)) rb 5 (.int .i64 s.due) _ _ _ j4
    have j6 := heap_setCell_at ((((((w5.setCell ⟨rb, 0, none⟩ (.slice a0 l0 c0)).setCell ⟨rb, 1, none⟩ (.slice a1 l1 c1)).setCell ⟨rb, 2, none⟩ (.slice a2 l2 c2)).setCell ⟨rb, 3, none⟩ (.slice a3 l3 c3)).setCell ⟨rb, 4, none⟩ (.slice a4 l4 c4)).setCell ⟨rb, 5, none⟩ (.int .i64 s.due)) rb 6 (.int .i64 s.reply) _ _ _ j5
    have hfin : (((((((w5.setCell ⟨rb, 0, none⟩ (.slice a0 l0 c0)).setCell ⟨rb, 1, none⟩ (.slice a1 l1 c1)).setCell ⟨rb, 2, none⟩ (.slice a2 l2 c2)).setCell ⟨rb, 3, none⟩ (.slice a3 l3 c3)).setCell ⟨rb, 4, none⟩ (.slice a4 l4 c4)).setCell ⟨rb, 5, none⟩ (.int .i64 s.due)).setCell ⟨rb, 6, none⟩ (.int .i64 s.reply)).heap[rb]? = some (.cells #[.slice a0 l0 c0, .slice a1 l1 c1, .slice a2 l2 c2, .slice a3 l3 c3, .slice a4 l4 c4, .int .i64 s.due, .int .i64 s.reply] 31 (0, 0)) := by simpa using j6
    have q0 := cell_at (i := 0) hfin rfl
    have q1 := cell_at (i := 1) hfin rfl
    have q2 := cell_at (i := 2) hfin rfl
    have q3 := cell_at (i := 3) hfin rfl
    have q4 := cell_at (i := 4) hfin rfl
    have q5 := cell_at (i := 5) hfin rfl
    have q6 := cell_at (i := 6) hfin rfl
    clear hke hfin hrn hbX hrX j0 j1 j2 j3 j4 j5 j6
    go_wp2_with fail
    refine bodyPost_ret (v := .tuple #[.agg #[.slice a0 l0 c0, .slice a1 l1 c1, .slice a2 l2 c2, .slice a3 l3 c3, .slice a4 l4 c4, .int .i64 s.due, .int .i64 s.reply], .slice al ll cl, .int .i64 ef]) ?_ rfl ⟨_, n4, rfl, ⟨a0, a1, a2, a3, a4, l0, c0, l1, c1, l2, c2, l3, c3, l4, c4, s, al, ll, cl, xs, by rw [HEF.out], hfi.out, ⟨hb0, hb1, hb2, hb3, hb4⟩, hxl, hcl, hfx.out⟩, by omega, by omega, hfs.out, hfw.out⟩
    simp [results, Tryz.results7, go_sem, q0, q1, q2, q3, q4, q5, q6]
end Go.Proofs.YthhmgblcccbdaaaGreatDoor

/- The law ReviewAdds, walked. -/
namespace Go.Proofs.YthhmgblcccbdaaaGreatDoor
open Go.RowKit

theorem Glob.ltA {w : World} (h : Glob w) : 1 < w.heap.size ∧ 2 < w.heap.size ∧ 0 < w.heap.size := by
  obtain ⟨m, hm⟩ := h.most
  exact ⟨lt_of_cell (h.tabs.1 0 (by decide)), lt_of_cell (h.tabs.2 0 (by decide)).1, lt_of_cell hm⟩
/-- A place in a row of strings. -/
def PStrAt (σ : St) (ss : List ByteArray) (v : Value) (w : World) : Prop := ∃ b i, v = .pointer (some ⟨b, i, none⟩) ∧ i < ss.length ∧ b ≠ σ.b ∧ w.heap[b]? = some (.cells (ss.map Value.string).toArray 9 (0, 0))
theorem PStrAt.stays (σ : St) (ss : List ByteArray) : Stays (fun w w' => But σ.b w w') (PStrAt σ ss) := fun _ _ _ k ⟨b, i, h1, h2, h3, h4⟩ => ⟨b, i, h1, h2, h3, k.heap h4 h3⟩
theorem strAt_cell {ss : List ByteArray} {w : World} {b i : Nat} (h : w.heap[b]? = some (.cells (ss.map Value.string).toArray 9 (0, 0))) (hi : i < ss.length) (hz : ∀ s ∈ ss, s.size ≤ 1000000) : ∃ r : ByteArray, w.cell? ⟨b, i, none⟩ = some (.string r) ∧ r.size ≤ 1000000 :=
  ⟨ss[i], cell_at h (by simp [hi]), hz _ (List.getElem_mem hi)⟩
set_option maxRecDepth 100000 in
set_option maxHeartbeats 12800000 in
theorem reviewAdds_walk (a : Option Addr) (len cap : Nat) (w : World) (h : IsRow w a len cap) (hG : Glob w) (hP : Pow w) :
    Calls Tryz.prog 3 #[.slice a len cap] w fun e w' => e = .returned (.bool true) ∧ Below w.heap.size w w' := by
  have hst := h.start
  obtain ⟨σ, hσ⟩ : ∃ σ : St, σ = ⟨w.heap.size, a, len, cap⟩ := ⟨_, rfl⟩
  have hσb : σ.b = w.heap.size := by rw [hσ]
  rw [← hσ] at hst
  have hptr : (Value.pointer (some ⟨w.heap.size, 0, none⟩)) = Value.pointer (some ⟨σ.b, 0, none⟩) := by rw [hσb]
  have Hptr := Lib.hid hptr
  have Hσ := Lib.hid hσb
  have hk0 : But σ.b w (w.alloc (.cells #[.slice a len cap, .int .i64 0] 25)) := Kept.alloc _ _ _
  have hgl := hG.ltA
  have hpl := hP.lt
  have HG := Lib.hid (fun (wx : World) (k : But σ.b w wx) => (⟨hG.kept k (by omega) (by omega) (by omega), hP.kept k (by omega)⟩ : GlobP wx))
  clear hσ hσb hptr h hG hgl hP hpl
  go_enter Tryz.func3, Tryz.ntmps3
  go_upto_region 2 with fail
  simp only [Hptr.out]
  generalize w.alloc (.cells #[.slice a len cap, .int .i64 0] 25) = w0 at *
  have hl0 := hst.lt
  go_wp2_with fail
  refine (range_any σ 0 0 5 _ hst (by omega) (by omega) (by omega) (by omega)).mono ?_
  rintro e w1 ⟨v, n1, rfl, ⟨r, rfl, hr1, hr2⟩, -, hn1, hs1, hb1⟩
  obtain ⟨M, rfl⟩ := Int.eq_ofNat_of_zero_le hr1
  have hM : M ≤ 5 := by omega
  have hw1 := hk0.trans hb1
  clear hr1 hr2 hst hb1 hk0
  go_wp2_with fail
  refine (scene_any σ n1 _ M hs1 (by omega) (by omega) (fun wx k => (HG.out wx (hw1.trans k)).g)).mono ?_
  rintro e w2 ⟨v, n2, rfl, ⟨a0, a1, a2, a3, a4, l0, c0, l1, c1, l2, c2, l3, c3, l4, c4, s, al, ll, cl, xs, rfl, his, ⟨hb0, hb1, hb2, hb3, hb4⟩, hll, hcl, hsx⟩, -, hn2, hs2, hk2⟩
  have hw2 := hw1.trans hk2
  have hl2' := hs2.lt
  clear hs1 hw1 hk2
  have hk3 : All w2 (w2.alloc (.cells #[.slice a0 l0 c0, .slice a1 l1 c1, .slice a2 l2 c2, .slice a3 l3 c3, .slice a4 l4 c4, .int .i64 s.due, .int .i64 s.reply] 31)) := Kept.alloc _ _ _
  have hx3 := heap_at w2 (.cells #[.slice a0 l0 c0, .slice a1 l1 c1, .slice a2 l2 c2, .slice a3 l3 c3, .slice a4 l4 c4, .int .i64 s.due, .int .i64 s.reply] 31) _ rfl
  obtain ⟨xb, hxb⟩ : ∃ b, b = w2.heap.size := ⟨_, rfl⟩
  have HXB := Lib.hid hxb
  rw [← hxb] at hx3
  have hxs : σ.b < xb := by omega
  have his3 := his.keep hk3.all
  have hsx3 := hsx.keep RRev.ok hk3.all
  have hs3 := hs2.keep hk3
  have hw3 := hw2.trans hk3.all
  clear hxb his hsx hs2 hw2 hk3
  obtain ⟨ef, hef⟩ : ∃ z, z = revsF s xs := ⟨_, rfl⟩
  have HEF := Lib.hid hef
  rw [← hef]
  clear hef
  go_upto_region 3 with fail
  simp only [← HXB.out]
  generalize w2.alloc (.cells #[.slice a0 l0 c0, .slice a1 l1 c1, .slice a2 l2 c2, .slice a3 l3 c3, .slice a4 l4 c4, .int .i64 s.due, .int .i64 s.reply] 31) = w3 at *
  have e0 := cell_at (i := 0) hx3 rfl
  have e1 := cell_at (i := 1) hx3 rfl
  have e2 := cell_at (i := 2) hx3 rfl
  have e3 := cell_at (i := 3) hx3 rfl
  have e4 := cell_at (i := 4) hx3 rfl
  have e5 := cell_at (i := 5) hx3 rfl
  have e6 := cell_at (i := 6) hx3 rfl
  have hl3 := hs3.lt
  go_wp2_with fail
  refine (pairOfS_any σ n2 _ a0 l0 c0 a1 l1 c1 a2 l2 c2 a3 l3 c3 a4 l4 c4 s hs3 (by omega) his3 (by omega)).mono ?_
  rintro e w4 ⟨v, n4, rfl, ⟨y, rfl⟩, -, hn4, hs4, hk4⟩
  clear e0 e1 e2 e3 e4 e5 e6
  have hk5 : All w4 (w4.alloc (.cells #[.string y.paper, .string y.person] 38)) := Kept.alloc _ _ _
  have hp5 := heap_at w4 (.cells #[.string y.paper, .string y.person] 38) _ rfl
  obtain ⟨pb, hpb⟩ : ∃ b, b = w4.heap.size := ⟨_, rfl⟩
  have HPB := Lib.hid hpb
  rw [← hpb] at hp5
  have hl4 := hs4.lt
  have hps : σ.b < pb := by omega
  have hk35 := hk4.trans hk5.all
  have hx5 := hk35.heap hx3 (by omega)
  have his5 := his3.keep hk35
  have hsx5 := hsx3.keep RRev.ok hk35
  have hs5 := hs4.keep hk5
  have hw5 := hw3.trans hk35
  have hyz1 := y.h1
  have hyz2 := y.h2
  clear hpb hx3 his3 hsx3 hs3 hs4 hw3 hk4 hk5 hk35
  go_upto_region 4 with fail
  simp only [← HPB.out]
  generalize w4.alloc (.cells #[.string y.paper, .string y.person] 38) = w5 at *
  have hl5 := hs5.lt
  have HXP := Lib.hid (fun (wx : World) (k : But σ.b w5 wx) => (⟨k.heap hx5 (by omega), k.heap hp5 (by omega)⟩ : wx.heap[xb]? = _ ∧ wx.heap[pb]? = _))
  have HIS := Lib.hid (fun (wx : World) (k : But σ.b w5 wx) => his5.keep k)
  have HSX := Lib.hid (fun (wx : World) (k : But σ.b w5 wx) => hsx5.keep RRev.ok k)
  have HW5 := Lib.hid hw5
  have HST := Lib.hid hs5
  clear hx5 hp5 his5 hsx5 hw5 hs5
  refine wp_region_inv 25 (by kernel_rfl) (by kernel_rfl) (by kernel_rfl) (GStr 200 σ n4 w5)
    (DL [PIs (.pointer (some ⟨σ.b, 0, none⟩)), PNum (fun _ => True), PIs (.pointer (some ⟨σ.b, 0, none⟩)), PRow σ [0, 100, 9000, 9000, -1], PNum (fun _ => True), PIs (.pointer (some ⟨pb, 0, none⟩)), PIs (.string y.paper), PIs (.pointer (some ⟨pb, 1, none⟩)), PIs (.string y.person), PIs (.pointer (some ⟨pb, 1, none⟩)), PIs (.string y.person), PStrs σ [⟨#[]⟩, ⟨#[103, 117, 115]⟩, ⟨#[65]⟩, y.person], PIs (.pointer (some ⟨σ.b, 0, none⟩)), PRow σ [0, 0, 1, 1, 2, 3], PNum (fun r => 0 ≤ r ∧ r < 4), PStrAt σ [⟨#[]⟩, ⟨#[103, 117, 115]⟩, ⟨#[65]⟩, y.person], PStr (fun r => r.size ≤ 1000000), PIs (.pointer (some ⟨σ.b, 0, none⟩)), PBool, PIs (.pointer (some ⟨σ.b, 0, none⟩)), PIs (.pointer (some ⟨xb, 0, none⟩)), PIs (.slice a0 l0 c0), PAnsV w5.heap.size, PRevV w5.heap.size, PNew σ w5.heap.size 45 #[.int .i64 0, .int .i64 0, .string ⟨#[]⟩, .string ⟨#[]⟩, .string ⟨#[]⟩, .bool false, .slice none 0 0]]) (fun w w' => But σ.b w w')
    (DL.keep (by simp only [List.forall_mem_cons, List.not_mem_nil, false_implies, implies_true, and_true]; exact ⟨PIs.stays _ _, PNum.stays _ _, PIs.stays _ _, PRow.stays _ _, PNum.stays _ _, PIs.stays _ _, PIs.stays _ _, PIs.stays _ _, PIs.stays _ _, PIs.stays _ _, PIs.stays _ _, PStrs.stays _ _, PIs.stays _ _, PRow.stays _ _, PNum.stays _ _, PStrAt.stays _ _, PStr.stays _ _, PIs.stays _ _, PBool.stays _, PIs.stays _ _, PIs.stays _ _, PIs.stays _ _, PAnsV.stays _ _ hl5, PRevV.stays _ _ hl5, PNew.stays _ _ _ _⟩)) ?_ ?_ ?_
  · exact ⟨n4, Nat.le_refl _, by omega, HST.out.keep (Kept.drew _ _), Kept.drew _ _⟩
  · intro i o t ho hd hi k' a' wx hk hg hdf hts hoth hdeps
    obtain ⟨m, hm1, hm2, hst, hbut⟩ := hg
    have hlt9 := hst.lt
    have hszx := hbut.size
    obtain ⟨hxx, hpx⟩ := HXP.out wx hbut
    have e0' := cell_at (i := 0) hxx rfl
    have g0 := cell_at (i := 0) hpx rfl
    have g1 := cell_at (i := 1) hpx rfl
    clear hxx hpx
    have hz : i = 0 ∨ i = 1 ∨ i = 2 ∨ i = 3 ∨ i = 4 ∨ i = 5 ∨ i = 6 ∨ i = 7 ∨ i = 8 ∨ i = 9 ∨ i = 10 ∨ i = 11 ∨ i = 12 ∨ i = 13 ∨ i = 14 ∨ i = 15 ∨ i = 16 ∨ i = 17 ∨ i = 18 ∨ i = 19 ∨ i = 20 ∨ i = 21 ∨ i = 22 ∨ i = 23 ∨ i = 24 := by omega
    rcases hz with rfl | rfl | rfl | rfl | rfl | rfl | rfl | rfl | rfl | rfl | rfl | rfl | rfl | rfl | rfl | rfl | rfl | rfl | rfl | rfl | rfl | rfl | rfl | rfl | rfl
    · obtain rfl := Option.some.inj ho
      obtain rfl := Option.some.inj hd
      have e0 : a'.tmps.getD 3 undef = (.pointer (some ⟨σ.b, 0, none⟩)) := tmp_of ((hoth 3 (by decide)).trans rfl)
      clear hoth hdeps hdf hts ho
      refine wp_via (fun K' hK => ?_)
      have HK := Lib.hid hK
      clear hK
      go_simp
      exact HK.out _ _ ⟨_, rfl, GStr.same hm1 hm2 hst hbut, Kept.refl _ _, rfl⟩
    · obtain rfl := Option.some.inj ho
      obtain rfl := Option.some.inj hd
      have e0 : a'.tmps.getD 26 undef = (.pointer (some ⟨σ.b, 0, none⟩)) := hdeps 0 (by decide) 26 rfl
      clear hoth hdeps hdf hts ho
      refine wp_via (fun K' hK => ?_)
      have HK := Lib.hid hK
      clear hK
      go_simp
      refine (range_any σ m 0 9 _ hst (by omega) (by omega) (by omega) (by omega)).mono ?_
      rintro e w2x ⟨v, m2, rfl, ⟨r, rfl, -, -⟩, hm3, hm4, hst2, hb2x⟩
      exact HK.out _ _ ⟨_, rfl, GStr.call hm1 hm2 hbut hm3 (by omega) hst2 hb2x, hb2x, ⟨r, rfl, trivial⟩⟩
    · obtain rfl := Option.some.inj ho
      obtain rfl := Option.some.inj hd
      have e0 : a'.tmps.getD 3 undef = (.pointer (some ⟨σ.b, 0, none⟩)) := tmp_of ((hoth 3 (by decide)).trans rfl)
      clear hoth hdeps hdf hts ho
      refine wp_via (fun K' hK => ?_)
      have HK := Lib.hid hK
      clear hK
      go_simp
      exact HK.out _ _ ⟨_, rfl, GStr.same hm1 hm2 hst hbut, Kept.refl _ _, rfl⟩
    · obtain rfl := Option.some.inj ho
      obtain rfl := Option.some.inj hd
      clear hoth hdeps hdf hts ho
      refine wp_via (fun K' hK => ?_)
      have HK := Lib.hid hK
      clear hK
      go_simp
      exact HK.out _ _ ⟨_, rfl, GStr.alloc _ hm1 hm2 hst hbut, Kept.alloc _ _ _, ⟨wx.heap.size, rfl, Nat.ne_of_gt hlt9, heap_at _ _ _ rfl⟩⟩
    · obtain rfl := Option.some.inj ho
      obtain rfl := Option.some.inj hd
      have ep : a'.tmps.getD 28 undef = (.pointer (some ⟨σ.b, 0, none⟩)) := hdeps 2 (by decide) 28 rfl
      obtain ⟨br, er, hrn, hr⟩ : PRow σ [0, 100, 9000, 9000, -1] (a'.tmps.getD 29 undef) wx := hdeps 3 (by decide) 29 rfl
      replace er : a'.tmps.getD 29 undef = .slice (some ⟨br, 0, none⟩) 5 5 := er
      clear hoth hdeps hdf hts ho
      refine wp_via (fun K' hK => ?_)
      have HK := Lib.hid hK
      clear hK
      go_simp
      refine (pick_any σ m _ _ _ [0, 100, 9000, 9000, -1] _ hst (by omega) (Sl.lit_ints _ hr rfl hrn) (by simp) (by simp)).mono ?_
      rintro e w2x ⟨v, m2, rfl, ⟨r, rfl, hr2⟩, hm3, hm4, hst2, hb2x⟩
      exact HK.out _ _ ⟨_, rfl, GStr.call hm1 hm2 hbut hm3 (by omega) hst2 hb2x, hb2x, ⟨r, rfl, trivial⟩⟩
    · obtain rfl := Option.some.inj ho
      obtain rfl := Option.some.inj hd
      have e0 : a'.tmps.getD 7 undef = (.pointer (some ⟨pb, 0, none⟩)) := tmp_of ((hoth 7 (by decide)).trans rfl)
      clear hoth hdeps hdf hts ho
      refine wp_via (fun K' hK => ?_)
      have HK := Lib.hid hK
      clear hK
      go_simp
      exact HK.out _ _ ⟨_, rfl, GStr.same hm1 hm2 hst hbut, Kept.refl _ _, rfl⟩
    · obtain rfl := Option.some.inj ho
      obtain rfl := Option.some.inj hd
      have e0 : a'.tmps.getD 31 undef = (.pointer (some ⟨pb, 0, none⟩)) := hdeps 5 (by decide) 31 rfl
      clear hoth hdeps hdf hts ho
      refine wp_via (fun K' hK => ?_)
      have HK := Lib.hid hK
      clear hK
      go_simp
      exact HK.out _ _ ⟨_, rfl, GStr.same hm1 hm2 hst hbut, Kept.refl _ _, rfl⟩
    · obtain rfl := Option.some.inj ho
      obtain rfl := Option.some.inj hd
      have e0 : a'.tmps.getD 7 undef = (.pointer (some ⟨pb, 0, none⟩)) := tmp_of ((hoth 7 (by decide)).trans rfl)
      clear hoth hdeps hdf hts ho
      refine wp_via (fun K' hK => ?_)
      have HK := Lib.hid hK
      clear hK
      go_simp
      exact HK.out _ _ ⟨_, rfl, GStr.same hm1 hm2 hst hbut, Kept.refl _ _, rfl⟩
    · obtain rfl := Option.some.inj ho
      obtain rfl := Option.some.inj hd
      have e0 : a'.tmps.getD 33 undef = (.pointer (some ⟨pb, 1, none⟩)) := hdeps 7 (by decide) 33 rfl
      clear hoth hdeps hdf hts ho
      refine wp_via (fun K' hK => ?_)
      have HK := Lib.hid hK
      clear hK
      go_simp
      exact HK.out _ _ ⟨_, rfl, GStr.same hm1 hm2 hst hbut, Kept.refl _ _, rfl⟩
    · obtain rfl := Option.some.inj ho
      obtain rfl := Option.some.inj hd
      have e0 : a'.tmps.getD 7 undef = (.pointer (some ⟨pb, 0, none⟩)) := tmp_of ((hoth 7 (by decide)).trans rfl)
      clear hoth hdeps hdf hts ho
      refine wp_via (fun K' hK => ?_)
      have HK := Lib.hid hK
      clear hK
      go_simp
      exact HK.out _ _ ⟨_, rfl, GStr.same hm1 hm2 hst hbut, Kept.refl _ _, rfl⟩
    · obtain rfl := Option.some.inj ho
      obtain rfl := Option.some.inj hd
      have e0 : a'.tmps.getD 35 undef = (.pointer (some ⟨pb, 1, none⟩)) := hdeps 9 (by decide) 35 rfl
      clear hoth hdeps hdf hts ho
      refine wp_via (fun K' hK => ?_)
      have HK := Lib.hid hK
      clear hK
      go_simp
      exact HK.out _ _ ⟨_, rfl, GStr.same hm1 hm2 hst hbut, Kept.refl _ _, rfl⟩
    · obtain rfl := Option.some.inj ho
      obtain rfl := Option.some.inj hd
      have e0 : a'.tmps.getD 36 undef = .string y.person := hdeps 10 (by decide) 36 rfl
      have e0q : a'.tmps[36]?.getD undef = .string y.person := by rw [← Array.getD_eq_getD_getElem?]; exact e0
      clear hoth hdeps hdf hts ho
      refine wp_via (fun K' hK => ?_)
      have HK := Lib.hid hK
      clear hK
      go_simp
      exact HK.out _ _ ⟨_, rfl, GStr.alloc _ hm1 hm2 hst hbut, Kept.alloc _ _ _, ⟨wx.heap.size, rfl, Nat.ne_of_gt hlt9, heap_at _ _ _ rfl⟩⟩
    · obtain rfl := Option.some.inj ho
      obtain rfl := Option.some.inj hd
      have e0 : a'.tmps.getD 3 undef = (.pointer (some ⟨σ.b, 0, none⟩)) := tmp_of ((hoth 3 (by decide)).trans rfl)
      clear hoth hdeps hdf hts ho
      refine wp_via (fun K' hK => ?_)
      have HK := Lib.hid hK
      clear hK
      go_simp
      exact HK.out _ _ ⟨_, rfl, GStr.same hm1 hm2 hst hbut, Kept.refl _ _, rfl⟩
    · obtain rfl := Option.some.inj ho
      obtain rfl := Option.some.inj hd
      clear hoth hdeps hdf hts ho
      refine wp_via (fun K' hK => ?_)
      have HK := Lib.hid hK
      clear hK
      go_simp
      exact HK.out _ _ ⟨_, rfl, GStr.alloc _ hm1 hm2 hst hbut, Kept.alloc _ _ _, ⟨wx.heap.size, rfl, Nat.ne_of_gt hlt9, heap_at _ _ _ rfl⟩⟩
    · obtain rfl := Option.some.inj ho
      obtain rfl := Option.some.inj hd
      have ep : a'.tmps.getD 38 undef = (.pointer (some ⟨σ.b, 0, none⟩)) := hdeps 12 (by decide) 38 rfl
      obtain ⟨br, er, hrn, hr⟩ : PRow σ [0, 0, 1, 1, 2, 3] (a'.tmps.getD 39 undef) wx := hdeps 13 (by decide) 39 rfl
      replace er : a'.tmps.getD 39 undef = .slice (some ⟨br, 0, none⟩) 6 6 := er
      clear hoth hdeps hdf hts ho
      refine wp_via (fun K' hK => ?_)
      have HK := Lib.hid hK
      clear hK
      go_simp
      refine (pick_any σ m _ _ _ [0, 0, 1, 1, 2, 3] _ hst (by omega) (Sl.lit_ints _ hr rfl hrn) (by simp) (by simp)).mono ?_
      rintro e w2x ⟨v, m2, rfl, ⟨r, rfl, hr2⟩, hm3, hm4, hst2, hb2x⟩
      exact HK.out _ _ ⟨_, rfl, GStr.call hm1 hm2 hbut hm3 (by omega) hst2 hb2x, hb2x, ⟨r, rfl, by simp at hr2; omega⟩⟩
    · obtain rfl := Option.some.inj ho
      obtain rfl := Option.some.inj hd
      obtain ⟨b, e1, hb1, hb2⟩ : PStrs σ [⟨#[]⟩, ⟨#[103, 117, 115]⟩, ⟨#[65]⟩, y.person] (a'.tmps.getD 37 undef) wx := hdeps 11 (by decide) 37 rfl
      replace e1 : a'.tmps.getD 37 undef = .slice (some ⟨b, 0, none⟩) 4 4 := e1
      obtain ⟨r, e2, hr1, hr2⟩ : PNum (fun r => 0 ≤ r ∧ r < 4) (a'.tmps.getD 40 undef) wx := hdeps 14 (by decide) 40 rfl
      obtain ⟨j, rfl⟩ := Int.eq_ofNat_of_zero_le hr1
      have hj : j < 4 := by omega
      clear hoth hdeps hdf hts ho
      refine wp_via (fun K' hK => ?_)
      have HK := Lib.hid hK
      clear hK
      go_simp
      exact HK.out _ _ ⟨_, rfl, GStr.same hm1 hm2 hst hbut, Kept.refl _ _, ⟨b, j, rfl, hj, hb1, hb2⟩⟩
    · obtain rfl := Option.some.inj ho
      obtain rfl := Option.some.inj hd
      obtain ⟨b, j, e1, hj, hb1, hb2⟩ : PStrAt σ [⟨#[]⟩, ⟨#[103, 117, 115]⟩, ⟨#[65]⟩, y.person] (a'.tmps.getD 41 undef) wx := hdeps 15 (by decide) 41 rfl
      obtain ⟨r, hr, hrz⟩ := strAt_cell hb2 hj (by intro z hz; simp only [List.mem_cons, List.not_mem_nil, or_false] at hz; rcases hz with rfl | rfl | rfl | rfl <;> first | exact hyz2 | decide)
      clear hoth hdeps hdf hts ho
      refine wp_via (fun K' hK => ?_)
      have HK := Lib.hid hK
      clear hK
      go_simp
      exact HK.out _ _ ⟨_, rfl, GStr.same hm1 hm2 hst hbut, Kept.refl _ _, ⟨r, rfl, hrz⟩⟩
    · obtain rfl := Option.some.inj ho
      obtain rfl := Option.some.inj hd
      have e0 : a'.tmps.getD 3 undef = (.pointer (some ⟨σ.b, 0, none⟩)) := tmp_of ((hoth 3 (by decide)).trans rfl)
      clear hoth hdeps hdf hts ho
      refine wp_via (fun K' hK => ?_)
      have HK := Lib.hid hK
      clear hK
      go_simp
      exact HK.out _ _ ⟨_, rfl, GStr.same hm1 hm2 hst hbut, Kept.refl _ _, rfl⟩
    · obtain rfl := Option.some.inj ho
      obtain rfl := Option.some.inj hd
      have e0 : a'.tmps.getD 43 undef = (.pointer (some ⟨σ.b, 0, none⟩)) := hdeps 17 (by decide) 43 rfl
      clear hoth hdeps hdf hts ho
      refine wp_via (fun K' hK => ?_)
      have HK := Lib.hid hK
      clear hK
      go_simp
      refine (flip_any σ _ 2 _ hst (by omega) (by omega) (by omega)).mono ?_
      rintro e w2x ⟨v, m2, rfl, ⟨r, rfl⟩, hm3, hm4, hst2, hb2x⟩
      exact HK.out _ _ ⟨_, rfl, GStr.call hm1 hm2 hbut hm3 (by omega) hst2 hb2x, hb2x, ⟨r, rfl⟩⟩
    · obtain rfl := Option.some.inj ho
      obtain rfl := Option.some.inj hd
      have e0 : a'.tmps.getD 3 undef = (.pointer (some ⟨σ.b, 0, none⟩)) := tmp_of ((hoth 3 (by decide)).trans rfl)
      clear hoth hdeps hdf hts ho
      refine wp_via (fun K' hK => ?_)
      have HK := Lib.hid hK
      clear hK
      go_simp
      exact HK.out _ _ ⟨_, rfl, GStr.same hm1 hm2 hst hbut, Kept.refl _ _, rfl⟩
    · obtain rfl := Option.some.inj ho
      obtain rfl := Option.some.inj hd
      have e0 : a'.tmps.getD 4 undef = (.pointer (some ⟨xb, 0, none⟩)) := tmp_of ((hoth 4 (by decide)).trans rfl)
      clear hoth hdeps hdf hts ho
      refine wp_via (fun K' hK => ?_)
      have HK := Lib.hid hK
      clear hK
      go_simp
      exact HK.out _ _ ⟨_, rfl, GStr.same hm1 hm2 hst hbut, Kept.refl _ _, rfl⟩
    · obtain rfl := Option.some.inj ho
      obtain rfl := Option.some.inj hd
      have e0 : a'.tmps.getD 46 undef = (.pointer (some ⟨xb, 0, none⟩)) := hdeps 20 (by decide) 46 rfl
      clear hoth hdeps hdf hts ho
      refine wp_via (fun K' hK => ?_)
      have HK := Lib.hid hK
      clear hK
      go_simp
      exact HK.out _ _ ⟨_, rfl, GStr.same hm1 hm2 hst hbut, Kept.refl _ _, rfl⟩
    · obtain rfl := Option.some.inj ho
      obtain rfl := Option.some.inj hd
      have e0 : a'.tmps.getD 45 undef = (.pointer (some ⟨σ.b, 0, none⟩)) := hdeps 19 (by decide) 45 rfl
      have e1 : a'.tmps.getD 47 undef = (.slice a0 l0 c0) := hdeps 21 (by decide) 47 rfl
      clear hoth hdeps hdf hts ho
      refine wp_via (fun K' hK => ?_)
      have HK := Lib.hid hK
      clear hK
      go_simp
      refine (answers_any σ _ _ a0 l0 c0 s.sheet hst (by omega) (HIS.out wx hbut).sheet (by omega)).mono ?_
      rintro e w2x ⟨v, m2, rfl, ⟨ys, hyl, hya⟩, hm3, hm4, hst2, hb2x⟩
      obtain ⟨aa, ac, rfl, -⟩ := hya.form
      exact HK.out _ _ ⟨_, rfl, GStr.call hm1 hm2 hbut hm3 (by omega) hst2 hb2x, hb2x, ⟨ys, aa, ac, rfl, by omega, hya.base hszx⟩⟩
    · obtain rfl := Option.some.inj ho
      obtain rfl := Option.some.inj hd
      obtain ⟨no, e27, -⟩ : PNum (fun _ => True) (a'.tmps.getD 27 undef) wx := hdeps 1 (by decide) 27 rfl
      obtain ⟨tm, e30, -⟩ : PNum (fun _ => True) (a'.tmps.getD 30 undef) wx := hdeps 4 (by decide) 30 rfl
      have e32 : a'.tmps.getD 32 undef = .string y.paper := hdeps 6 (by decide) 32 rfl
      have e34 : a'.tmps.getD 34 undef = .string y.person := hdeps 8 (by decide) 34 rfl
      obtain ⟨by1, e42, hby⟩ : PStr (fun r => r.size ≤ 1000000) (a'.tmps.getD 42 undef) wx := hdeps 16 (by decide) 42 rfl
      obtain ⟨fl, e44⟩ : PBool (a'.tmps.getD 44 undef) wx := hdeps 18 (by decide) 44 rfl
      obtain ⟨ys, aa, ac, e48, hyl, hya⟩ : PAnsV w5.heap.size (a'.tmps.getD 48 undef) wx := hdeps 22 (by decide) 48 rfl
      have f27 : a'.tmps[27]?.getD undef = .int .i64 no := by rw [← Array.getD_eq_getD_getElem?]; exact e27
      have f30 : a'.tmps[30]?.getD undef = .int .i64 tm := by rw [← Array.getD_eq_getD_getElem?]; exact e30
      have f32 : a'.tmps[32]?.getD undef = .string y.paper := by rw [← Array.getD_eq_getD_getElem?]; exact e32
      have f34 : a'.tmps[34]?.getD undef = .string y.person := by rw [← Array.getD_eq_getD_getElem?]; exact e34
      have f42 : a'.tmps[42]?.getD undef = .string by1 := by rw [← Array.getD_eq_getD_getElem?]; exact e42
      have f44 : a'.tmps[44]?.getD undef = .bool fl := by rw [← Array.getD_eq_getD_getElem?]; exact e44
      have f48 : a'.tmps[48]?.getD undef = .slice aa ys.length ac := by rw [← Array.getD_eq_getD_getElem?]; exact e48
      clear hoth hdeps hdf hts ho
      refine wp_via (fun K' hK => ?_)
      have HK := Lib.hid hK
      clear hK
      go_simp
      exact HK.out _ _ ⟨_, rfl, GStr.same hm1 hm2 hst hbut, Kept.refl _ _, ⟨⟨no, tm, y.paper, y.person, by1, fl, ys⟩, aa, ac, rfl, ⟨hyz1, hyz2, hby, by show ys.length ≤ 1000; omega⟩, hyl, hya⟩⟩
    · obtain rfl := Option.some.inj ho
      obtain rfl := Option.some.inj hd
      clear hoth hdeps hdf hts ho
      refine wp_via (fun K' hK => ?_)
      have HK := Lib.hid hK
      clear hK
      go_simp
      exact HK.out _ _ ⟨_, rfl, GStr.alloc _ hm1 hm2 hst hbut, Kept.alloc _ _ _, ⟨wx.heap.size, rfl, hszx, Nat.ne_of_gt hlt9, heap_at _ _ _ rfl⟩⟩
  · intro wx f hg hd
    obtain ⟨m4, hm1, hm2, hst, hbut⟩ := hg
    obtain ⟨x, aa, ac, e49, hsm, hal, hacc⟩ : PRevV w5.heap.size (f 49) wx := hd 23 49 (by decide) rfl
    obtain ⟨rb, e8, hrb1, hrb2, hrb3⟩ : PNew σ w5.heap.size 45 #[.int .i64 0, .int .i64 0, .string ⟨#[]⟩, .string ⟨#[]⟩, .string ⟨#[]⟩, .bool false, .slice none 0 0] (f 8) wx := hd 24 8 (by decide) rfl
    rw [show dsts _ 25 = [26, 27, 28, 29, 30, 31, 32, 33, 34, 35, 36, 37, 38, 39, 40, 41, 42, 43, 44, 45, 46, 47, 48, 49, 8] from by kernel_rfl]
    simp only [List.map_cons, List.map_nil, puts, Act.put, e49, e8, List.drop_succ_cons, List.drop_zero]
    generalize f 26 = f26
    generalize f 27 = f27
    generalize f 28 = f28
    generalize f 29 = f29
    generalize f 30 = f30
    generalize f 31 = f31
    generalize f 32 = f32
    generalize f 33 = f33
    generalize f 34 = f34
    generalize f 35 = f35
    generalize f 36 = f36
    generalize f 37 = f37
    generalize f 38 = f38
    generalize f 39 = f39
    generalize f 40 = f40
    generalize f 41 = f41
    generalize f 42 = f42
    generalize f 43 = f43
    generalize f 44 = f44
    generalize f 45 = f45
    generalize f 46 = f46
    generalize f 47 = f47
    generalize f 48 = f48
    clear hd e49 e8
    simp only [List.setIfInBounds_toArray, List.set_cons_zero, List.set_cons_succ]
    have q0 := cell_at (i := 0) hrb3 rfl
    have q1 := cell_at (i := 1) hrb3 rfl
    have q2 := cell_at (i := 2) hrb3 rfl
    have q3 := cell_at (i := 3) hrb3 rfl
    have q4 := cell_at (i := 4) hrb3 rfl
    have q5 := cell_at (i := 5) hrb3 rfl
    have q6 := cell_at (i := 6) hrb3 rfl
    have z0 := frozen_at (i := 0) hrb3
    have z1 := frozen_at (i := 1) hrb3
    have z2 := frozen_at (i := 2) hrb3
    have z3 := frozen_at (i := 3) hrb3
    have z4 := frozen_at (i := 4) hrb3
    have z5 := frozen_at (i := 5) hrb3
    have z6 := frozen_at (i := 6) hrb3
    have j0 := heap_setCell_at wx rb 0 (.int .i64 x.no) _ _ _ hrb3
    have j1 := heap_setCell_at (wx.setCell ⟨rb, 0, none⟩ (.int .i64 x.no)) rb 1 (.int .i64 x.tm) _ _ _ j0
    have j2 := heap_setCell_at ((wx.setCell ⟨rb, 0, none⟩ (.int .i64 x.no)).setCell ⟨rb, 1, none⟩ (.int .i64 x.tm)) rb 2 (.string x.paper) _ _ _ j1
    have j3 := heap_setCell_at (((wx.setCell ⟨rb, 0, none⟩ (.int .i64 x.no)).setCell ⟨rb, 1, none⟩ (.int .i64 x.tm)).setCell ⟨rb, 2, none⟩ (.string x.paper)) rb 3 (.string x.person) _ _ _ j2
    have j4 := heap_setCell_at ((((wx.setCell ⟨rb, 0, none⟩ (.int .i64 x.no)).setCell ⟨rb, 1, none⟩ (.int .i64 x.tm)).setCell ⟨rb, 2, none⟩ (.string x.paper)).setCell ⟨rb, 3, none⟩ (.string x.person)) rb 4 (.string x.by_) _ _ _ j3
    have j5 := heap_setCell_at (((((wx.setCell ⟨rb, 0, none⟩ (.int .i64 x.no)).setCell ⟨rb, 1, none⟩ (.int .i64 x.tm)).setCell ⟨rb, 2, none⟩ (.string x.paper)).setCell ⟨rb, 3, none⟩ (.string x.person)).setCell ⟨rb, 4, none⟩ (.string x.by_)) rb 5 (.bool x.done) _ _ _ j4
    have j6 := heap_setCell_at ((((((wx.setCell ⟨rb, 0, none⟩ (.int .i64 x.no)).setCell ⟨rb, 1, none⟩ (.int .i64 x.tm)).setCell ⟨rb, 2, none⟩ (.string x.paper)).setCell ⟨rb, 3, none⟩ (.string x.person)).setCell ⟨rb, 4, none⟩ (.string x.by_)).setCell ⟨rb, 5, none⟩ (.bool x.done)) rb 6 (.slice aa x.answers.length ac) _ _ _ j5
    have hk4 : Kept (fun k => k ≠ rb) wx (((((((wx.setCell ⟨rb, 0, none⟩ (.int .i64 x.no)).setCell ⟨rb, 1, none⟩ (.int .i64 x.tm)).setCell ⟨rb, 2, none⟩ (.string x.paper)).setCell ⟨rb, 3, none⟩ (.string x.person)).setCell ⟨rb, 4, none⟩ (.string x.by_)).setCell ⟨rb, 5, none⟩ (.bool x.done)).setCell ⟨rb, 6, none⟩ (.slice aa x.answers.length ac)) := (((((((Kept.refl _ _).then_setCell _ _ (fun h => h rfl)).then_setCell _ _ (fun h => h rfl)).then_setCell _ _ (fun h => h rfl)).then_setCell _ _ (fun h => h rfl)).then_setCell _ _ (fun h => h rfl)).then_setCell _ _ (fun h => h rfl)).then_setCell _ _ (fun h => h rfl)
    have hr6 : (((((((wx.setCell ⟨rb, 0, none⟩ (.int .i64 x.no)).setCell ⟨rb, 1, none⟩ (.int .i64 x.tm)).setCell ⟨rb, 2, none⟩ (.string x.paper)).setCell ⟨rb, 3, none⟩ (.string x.person)).setCell ⟨rb, 4, none⟩ (.string x.by_)).setCell ⟨rb, 5, none⟩ (.bool x.done)).setCell ⟨rb, 6, none⟩ (.slice aa x.answers.length ac)).heap[rb]? = some (.cells (revC x aa ac) 45 (0, 0)) := by simpa using j6
    have hb6 : But σ.b w5 (((((((wx.setCell ⟨rb, 0, none⟩ (.int .i64 x.no)).setCell ⟨rb, 1, none⟩ (.int .i64 x.tm)).setCell ⟨rb, 2, none⟩ (.string x.paper)).setCell ⟨rb, 3, none⟩ (.string x.person)).setCell ⟨rb, 4, none⟩ (.string x.by_)).setCell ⟨rb, 5, none⟩ (.bool x.done)).setCell ⟨rb, 6, none⟩ (.slice aa x.answers.length ac)) := (((((((hbut.then_setNew _ _ hrb1).then_setNew _ _ hrb1).then_setNew _ _ hrb1).then_setNew _ _ hrb1).then_setNew _ _ hrb1).then_setNew _ _ hrb1).then_setNew _ _ hrb1)
    have hx6 := (HXP.out _ hb6).1
    have his6 := (HIS.out _ hb6).mono (fun _ _ => trivial)
    have hsx6 := (HSX.out _ hb6).mono RRev.ok (fun _ _ => trivial)
    have ha6 : Sl RAns 4 (fun _ => True) (((((((wx.setCell ⟨rb, 0, none⟩ (.int .i64 x.no)).setCell ⟨rb, 1, none⟩ (.int .i64 x.tm)).setCell ⟨rb, 2, none⟩ (.string x.paper)).setCell ⟨rb, 3, none⟩ (.string x.person)).setCell ⟨rb, 4, none⟩ (.string x.by_)).setCell ⟨rb, 5, none⟩ (.bool x.done)).setCell ⟨rb, 6, none⟩ (.slice aa x.answers.length ac)) aa x.answers.length x.answers := by
      obtain ⟨aa', ac', he, hsl⟩ := (hacc.keep RAns.ok hk4 (fun _ h => h.elim) (hacc.notType hrb3 (by decide))).sl RAns.ok (by decide) (G := fun _ => True) (fun _ h => h.elim) (fun _ _ => trivial)
      injection he with h1 h2 h3
      subst h1
      exact hsl
    have hG6 := fun (wy : World) (k : All (((((((wx.setCell ⟨rb, 0, none⟩ (.int .i64 x.no)).setCell ⟨rb, 1, none⟩ (.int .i64 x.tm)).setCell ⟨rb, 2, none⟩ (.string x.paper)).setCell ⟨rb, 3, none⟩ (.string x.person)).setCell ⟨rb, 4, none⟩ (.string x.by_)).setCell ⟨rb, 5, none⟩ (.bool x.done)).setCell ⟨rb, 6, none⟩ (.slice aa x.answers.length ac)) wy) => HG.out wy (HW5.out.trans (hb6.trans k.all))
    have hend := Lib.hid (show ∀ wy, All (((((((wx.setCell ⟨rb, 0, none⟩ (.int .i64 x.no)).setCell ⟨rb, 1, none⟩ (.int .i64 x.tm)).setCell ⟨rb, 2, none⟩ (.string x.paper)).setCell ⟨rb, 3, none⟩ (.string x.person)).setCell ⟨rb, 4, none⟩ (.string x.by_)).setCell ⟨rb, 5, none⟩ (.bool x.done)).setCell ⟨rb, 6, none⟩ (.slice aa x.answers.length ac)) wy → Below w.heap.size w wy from fun wy k => (HW5.out.trans (hb6.trans k.all)).below (Nat.le_refl _) (fun k hk => by have := Hσ.out; omega))
    clear j0 j1 j2 j3 j4 j5 j6
    clear hst hbut hm1 hm2 hacc hk4 hb6 hrb3
    go_upto_region 5 with fail
    generalize (((((((wx.setCell ⟨rb, 0, none⟩ (.int .i64 x.no)).setCell ⟨rb, 1, none⟩ (.int .i64 x.tm)).setCell ⟨rb, 2, none⟩ (.string x.paper)).setCell ⟨rb, 3, none⟩ (.string x.person)).setCell ⟨rb, 4, none⟩ (.string x.by_)).setCell ⟨rb, 5, none⟩ (.bool x.done)).setCell ⟨rb, 6, none⟩ (.slice aa x.answers.length ac)) = w6 at *
    clear q0 z0 q1 z1 q2 z2 q3 z3 q4 z4 q5 z5 q6 z6
    have e0 := cell_at (i := 0) hx6 rfl
    have e1 := cell_at (i := 1) hx6 rfl
    have e2 := cell_at (i := 2) hx6 rfl
    have e3 := cell_at (i := 3) hx6 rfl
    have e4 := cell_at (i := 4) hx6 rfl
    have e5 := cell_at (i := 5) hx6 rfl
    have e6 := cell_at (i := 6) hx6 rfl
    have d0 := cell_at (i := 0) hr6 rfl
    have d1 := cell_at (i := 1) hr6 rfl
    have d2 := cell_at (i := 2) hr6 rfl
    have d3 := cell_at (i := 3) hr6 rfl
    have d4 := cell_at (i := 4) hr6 rfl
    have d5 := cell_at (i := 5) hr6 rfl
    have d6 := cell_at (i := 6) hr6 rfl
    have HXR := Lib.hid (fun (wy : World) (k : All w6 wy) => (⟨k.heap hx6 trivial, k.heap hr6 trivial⟩ : wy.heap[xb]? = _ ∧ wy.heap[rb]? = _))
    have HG6 := Lib.hid hG6
    have HSXL := Lib.hid hsx6.len
    have HA := Lib.hid (add_any a0 l0 c0 a1 l1 c1 a2 l2 c2 a3 l3 c3 a4 l4 c4 s al ll cl xs x aa ac w6 his6 hsx6 (by omega) hcl hsm ha6 (hG6 w6 (Kept.refl _ _)).g)
    have HAO := Lib.hid (fun (wy : World) (k : All w6 wy) => addOf_any a0 l0 c0 a1 l1 c1 a2 l2 c2 a3 l3 c3 a4 l4 c4 s al ll cl xs x aa ac wy (his6.keep k) (hsx6.keep RRev.ok k) (by omega) hsm (ha6.keep RAns.ok k) (hG6 wy k).g)
    clear his6 hsx6 ha6 hG6 hx6 hr6 hsm
    go_wp2_with fail
    refine HA.out.mono ?_
    rintro e w7 ⟨hv, hw7⟩
    have HV := Lib.hid hv
    clear hv e0 d0 e1 d1 e2 d2 e3 d3 e4 d4 e5 d5 e6 d6
    by_cases hz : ef = 0
    case neg =>
      obtain rfl := HV.out.2 (by rw [addE, if_pos (by rw [← HEF.out]; exact hz), ← HEF.out]; exact hz)
      rw [show addE s xs x = ef from by rw [addE, if_pos (by rw [← HEF.out]; exact hz), ← HEF.out]]
      have hd0 : (ef == 0) = false := by simpa using hz
      go_wp2_with fail
      refine (equalRevs_same sameR_any none 0 0 none 0 0 [] _ (Sl.nil _ _ _ _ _) (Sl.nil _ _ _ _ _) (by omega) (HG6.out w7 hw7)).mono ?_
      rintro e w9 ⟨rfl, hw9⟩
      go_wp2_with fail
      refine (asked_any _ (HG6.out _ (hw7.trans hw9)).g).mono ?_
      rintro e wa ⟨rfl, hwa⟩
      go_wp2_with fail
      go_ret
      exact ⟨rfl, hend.out _ ((hw7.trans hw9).trans hwa)⟩
    case pos =>
      subst hz
      have hE : addE s xs x = addR s xs x := by rw [addE, if_neg (by rw [← HEF.out]; simp)]
      rw [hE] at HV
      obtain ⟨zz, hzz⟩ : ∃ z, z = addR s xs x := ⟨_, rfl⟩
      rw [← hzz] at HV HAO
      clear hE hzz
      obtain ⟨hx7, hr7⟩ := HXR.out w7 hw7
      have e0 := cell_at (i := 0) hx7 rfl
      have e1 := cell_at (i := 1) hx7 rfl
      have e2 := cell_at (i := 2) hx7 rfl
      have e3 := cell_at (i := 3) hx7 rfl
      have e4 := cell_at (i := 4) hx7 rfl
      have e5 := cell_at (i := 5) hx7 rfl
      have e6 := cell_at (i := 6) hx7 rfl
      have d0 := cell_at (i := 0) hr7 rfl
      have d1 := cell_at (i := 1) hr7 rfl
      have d2 := cell_at (i := 2) hr7 rfl
      have d3 := cell_at (i := 3) hr7 rfl
      have d4 := cell_at (i := 4) hr7 rfl
      have d5 := cell_at (i := 5) hr7 rfl
      have d6 := cell_at (i := 6) hr7 rfl
      clear hx7 hr7
      by_cases hzz : zz = 0
      case neg =>
        obtain rfl := HV.out.2 hzz
        go_wp2_with fail
        refine (HAO.out w7 hw7).mono ?_
        rintro e w8 ⟨hv8, hw8⟩
        obtain rfl := hv8.2 hzz
        clear e0 d0 e1 d1 e2 d2 e3 d3 e4 d4 e5 d5 e6 d6 hv8
        have hk8 := hw7.trans hw8
        go_wp2_with fail
        refine (equalRevs_same sameR_any none 0 0 none 0 0 [] _ (Sl.nil _ _ _ _ _) (Sl.nil _ _ _ _ _) (by omega) (HG6.out w8 hk8)).mono ?_
        rintro e w9 ⟨rfl, hw9⟩
        go_wp2_with fail
        refine (asked_any _ (HG6.out _ (hk8.trans hw9)).g).mono ?_
        rintro e wa ⟨rfl, hwa⟩
        go_wp2_with fail
        go_ret
        exact ⟨rfl, hend.out _ ((hk8.trans hw9).trans hwa)⟩
      case pos =>
        subst hzz
        obtain ⟨p1, q1, rfl, hs1⟩ := HV.out.1 rfl
        have HS1 := Lib.hid hs1
        clear hs1
        go_wp2_with fail
        refine (HAO.out w7 hw7).mono ?_
        rintro e w8 ⟨hv8, hw8⟩
        obtain ⟨p2, q2, rfl, hs2⟩ := hv8.1 rfl
        have HS2 := Lib.hid hs2
        clear e0 d0 e1 d1 e2 d2 e3 d3 e4 d4 e5 d5 e6 d6 hv8 hs2
        have hk8 := hw7.trans hw8
        go_wp2_with fail
        refine (equalRevs_same sameR_any p1 (xs.length + 1) q1 p2 (xs.length + 1) q2 (xs ++ [numR xs x]) _ (HS1.out.keep RRev.ok hw8) HS2.out (by have := HSXL.out; omega) (HG6.out w8 hk8)).mono ?_
        rintro e w9 ⟨rfl, hw9⟩
        go_wp2_with fail
        refine (asked_any _ (HG6.out _ (hk8.trans hw9)).g).mono ?_
        rintro e wa ⟨rfl, hwa⟩
        go_wp2_with fail
        go_ret
        exact ⟨rfl, hend.out _ ((hk8.trans hw9).trans hwa)⟩
end Go.Proofs.YthhmgblcccbdaaaGreatDoor
