/- clone and cloneAll. -/
import Derived.Test.YthhmgblcccbdaaaGreatDoorBv
namespace Go.Proofs.YthhmgblcccbdaaaGreatDoor
open Go.RowKit

set_option maxHeartbeats 800000 in
theorem cloneAns_any (a : Option Addr) (len cap : Nat) (xs : List Ans4) (w : World) (hs : Sl RAns 4 (fun _ => True) w a len xs) (hl : len ≤ 1000000) :
    Calls Tryz.prog 89 #[.slice a len cap] w (CopyG RAns 4 97 xs w) := by
  have Hlen := Lib.hid hs.len
  cases a with
  | none =>
    have h0 : len = 0 := by
      rcases Nat.eq_zero_or_pos len with h | h
      · exact h
      · obtain ⟨b, off, ha, -⟩ := hs.2 h
        cases ha
    have hx : xs = [] := List.eq_nil_of_length_eq_zero (by have := Hlen.out; omega)
    subst hx
    subst h0
    have hnil := @Lib.run_eql_slice_nil Tryz.prog
    go_enter Tryz.func89, Tryz.ntmps89
    go_wp2_with fail
    go_ret
    exact ⟨_, _, rfl, Acc.nil _ _ _ _ _ _, Kept.refl _ _⟩
  | some ad =>
    have hnil := @Lib.run_eql_slice_nil Tryz.prog
    have hsl : Sl RAns 4 (fun k => k < w.heap.size) w (some ad) len xs := (hs.live RAns.ok (by decide)).mono RAns.ok (fun k hk => hk.2)
    go_enter Tryz.func89, Tryz.ntmps89
    go_wp2_with (at_builtin; refine wp_cloneG RAns.ok _ rfl _ _ 42 rfl 97 (.agg #[.string ⟨#[]⟩, .int .i64 0, .string ⟨#[]⟩, .string ⟨#[]⟩]) 4 56 Tryz.underlying42 (by kernel_rfl) rfl (by decide) (fun k => k < w.heap.size) w rfl rfl ad len cap xs rfl (hsl.keep RAns.ok (Kept.alloc _ _ _)) (fun _ h => h) (fun vs y hv => by obtain ⟨rfl, -⟩ := (Flat.iff flatAns _ _ _ _).1 hv; exact Flat.one flatAns y) (by omega) (by decide) ?_)
    intro p' c' w2 hacc hw2
    clear hs hsl hnil
    go_wp2_with fail
    go_ret
    exact ⟨_, _, rfl, Acc.flatAny flatAns _ hacc, hw2⟩

/-- A review whose answers are the call's own. -/
def CloneP (x : Rev) (w : World) (e : Ending) (w' : World) : Prop := ∃ (p : Option Addr) (c : Nat), e = .returned (.agg (revC x p c)) ∧ Acc RAns 4 97 (fun _ => False) w.heap.size w' (.slice p x.answers.length c) x.answers ∧ All w w'
set_option maxRecDepth 100000 in
set_option maxHeartbeats 3200000 in
theorem clone_any (x : Rev) (aa : Option Addr) (ac : Nat) (w : World) (hs : Sl RAns 4 (fun _ => True) w aa x.answers.length x.answers) (hl : x.answers.length ≤ 1000000) :
    Calls Tryz.prog 51 #[.agg (revC x aa ac)] w (CloneP x w) := by
  have hk : All w ((w.alloc (.cells (revC x aa ac) 45)).alloc (.cells #[.int .i64 0, .int .i64 0, .string ⟨#[]⟩, .string ⟨#[]⟩, .string ⟨#[]⟩, .bool false, .slice none 0 0] 45)) := (Kept.alloc _ _ _).then_alloc _
  have hb1 := heap_old (.cells #[.int .i64 0, .int .i64 0, .string ⟨#[]⟩, .string ⟨#[]⟩, .string ⟨#[]⟩, .bool false, .slice none 0 0] 45) (heap_at w (.cells (revC x aa ac) 45) _ rfl)
  have hb2 := heap_at (w.alloc (.cells (revC x aa ac) 45)) (.cells #[.int .i64 0, .int .i64 0, .string ⟨#[]⟩, .string ⟨#[]⟩, .string ⟨#[]⟩, .bool false, .slice none 0 0] 45) (w.heap.size + 1) (by simp)
  have d6 := cell_at (i := 6) hb1 rfl
  have HC := Lib.hid (cloneAns_any aa x.answers.length ac x.answers _ (hs.keep RAns.ok hk) hl)
  clear hs
  go_enter Tryz.func51, Tryz.ntmps51
  go_wp2_with fail
  refine HC.out.mono ?_
  rintro e w2 ⟨p, c, rfl, hac, hw2⟩
  have hr := hw2.heap hb1 trivial
  have hz := hw2.heap hb2 trivial
  have hacb := hac.base hk.size
  have hkw := hk.trans hw2
  have hsz := hkw.size
  clear HC hb1 hb2 d6 hk hw2 hac
  have g6 := cell_at (i := 6) hr rfl
  have z6 := frozen_at (i := 6) hr
  have hr3 := heap_setCell_at w2 w.heap.size 6 (.slice p x.answers.length c) _ _ _ hr
  simp only [List.setIfInBounds_toArray, List.set_cons_zero, List.set_cons_succ] at hr3
  have g0' := cell_at (i := 0) hr3 rfl
  have g1' := cell_at (i := 1) hr3 rfl
  have g2' := cell_at (i := 2) hr3 rfl
  have g3' := cell_at (i := 3) hr3 rfl
  have g4' := cell_at (i := 4) hr3 rfl
  have g5' := cell_at (i := 5) hr3 rfl
  have g6' := cell_at (i := 6) hr3 rfl
  have kS : Kept (fun k => k ≠ w.heap.size) w2 (w2.setCell ⟨w.heap.size, 6, none⟩ (.slice p x.answers.length c)) := Kept.setCell _ _ _ (fun h => h rfl)
  have hz3 := kS.heap hz (by omega)
  have ha3 := hacb.keep RAns.ok kS (fun _ h => h.elim) (hacb.notType hr (by decide))
  have hk3 := hkw.then_setNew ⟨w.heap.size, 6, none⟩ (.slice p x.answers.length c) (Nat.le_refl _)
  clear kS hr hz hacb hkw
  have y0 := cell_at (i := 0) hz3 rfl
  have y1 := cell_at (i := 1) hz3 rfl
  have y2 := cell_at (i := 2) hz3 rfl
  have y3 := cell_at (i := 3) hz3 rfl
  have y4 := cell_at (i := 4) hz3 rfl
  have y5 := cell_at (i := 5) hz3 rfl
  have y6 := cell_at (i := 6) hz3 rfl
  have u0 := frozen_at (i := 0) hz3
  have u1 := frozen_at (i := 1) hz3
  have u2 := frozen_at (i := 2) hz3
  have u3 := frozen_at (i := 3) hz3
  have u4 := frozen_at (i := 4) hz3
  have u5 := frozen_at (i := 5) hz3
  have u6 := frozen_at (i := 6) hz3
  have j0 := heap_setCell_at (w2.setCell ⟨w.heap.size, 6, none⟩ (.slice p x.answers.length c)) (w.heap.size + 1) 0 (.int .i64 x.no) _ _ _ hz3
  have j1 := heap_setCell_at ((w2.setCell ⟨w.heap.size, 6, none⟩ (.slice p x.answers.length c)).setCell ⟨w.heap.size + 1, 0, none⟩ (.int .i64 x.no)) (w.heap.size + 1) 1 (.int .i64 x.tm) _ _ _ j0
  have j2 := heap_setCell_at (((w2.setCell ⟨w.heap.size, 6, none⟩ (.slice p x.answers.length c)).setCell ⟨w.heap.size + 1, 0, none⟩ (.int .i64 x.no)).setCell ⟨w.heap.size + 1, 1, none⟩ (.int .i64 x.tm)) (w.heap.size + 1) 2 (.string x.paper) _ _ _ j1
  have j3 := heap_setCell_at ((((w2.setCell ⟨w.heap.size, 6, none⟩ (.slice p x.answers.length c)).setCell ⟨w.heap.size + 1, 0, none⟩ (.int .i64 x.no)).setCell ⟨w.heap.size + 1, 1, none⟩ (.int .i64 x.tm)).setCell ⟨w.heap.size + 1, 2, none⟩ (.string x.paper)) (w.heap.size + 1) 3 (.string x.person) _ _ _ j2
  have j4 := heap_setCell_at (((((w2.setCell ⟨w.heap.size, 6, none⟩ (.slice p x.answers.length c)).setCell ⟨w.heap.size + 1, 0, none⟩ (.int .i64 x.no)).setCell ⟨w.heap.size + 1, 1, none⟩ (.int .i64 x.tm)).setCell ⟨w.heap.size + 1, 2, none⟩ (.string x.paper)).setCell ⟨w.heap.size + 1, 3, none⟩ (.string x.person)) (w.heap.size + 1) 4 (.string x.by_) _ _ _ j3
  have j5 := heap_setCell_at ((((((w2.setCell ⟨w.heap.size, 6, none⟩ (.slice p x.answers.length c)).setCell ⟨w.heap.size + 1, 0, none⟩ (.int .i64 x.no)).setCell ⟨w.heap.size + 1, 1, none⟩ (.int .i64 x.tm)).setCell ⟨w.heap.size + 1, 2, none⟩ (.string x.paper)).setCell ⟨w.heap.size + 1, 3, none⟩ (.string x.person)).setCell ⟨w.heap.size + 1, 4, none⟩ (.string x.by_)) (w.heap.size + 1) 5 (.bool x.done) _ _ _ j4
  have j6 := heap_setCell_at (((((((w2.setCell ⟨w.heap.size, 6, none⟩ (.slice p x.answers.length c)).setCell ⟨w.heap.size + 1, 0, none⟩ (.int .i64 x.no)).setCell ⟨w.heap.size + 1, 1, none⟩ (.int .i64 x.tm)).setCell ⟨w.heap.size + 1, 2, none⟩ (.string x.paper)).setCell ⟨w.heap.size + 1, 3, none⟩ (.string x.person)).setCell ⟨w.heap.size + 1, 4, none⟩ (.string x.by_)).setCell ⟨w.heap.size + 1, 5, none⟩ (.bool x.done)) (w.heap.size + 1) 6 (.slice p x.answers.length c) _ _ _ j5
  have hfin : ((((((((w2.setCell ⟨w.heap.size, 6, none⟩ (.slice p x.answers.length c)).setCell ⟨w.heap.size + 1, 0, none⟩ (.int .i64 x.no)).setCell ⟨w.heap.size + 1, 1, none⟩ (.int .i64 x.tm)).setCell ⟨w.heap.size + 1, 2, none⟩ (.string x.paper)).setCell ⟨w.heap.size + 1, 3, none⟩ (.string x.person)).setCell ⟨w.heap.size + 1, 4, none⟩ (.string x.by_)).setCell ⟨w.heap.size + 1, 5, none⟩ (.bool x.done)).setCell ⟨w.heap.size + 1, 6, none⟩ (.slice p x.answers.length c)).heap[w.heap.size + 1]? = some (.cells (revC x p c) 45 (0, 0)) := by simpa using j6
  have hke : Kept (fun k => k ≠ w.heap.size + 1) (w2.setCell ⟨w.heap.size, 6, none⟩ (.slice p x.answers.length c)) ((((((((w2.setCell ⟨w.heap.size, 6, none⟩ (.slice p x.answers.length c)).setCell ⟨w.heap.size + 1, 0, none⟩ (.int .i64 x.no)).setCell ⟨w.heap.size + 1, 1, none⟩ (.int .i64 x.tm)).setCell ⟨w.heap.size + 1, 2, none⟩ (.string x.paper)).setCell ⟨w.heap.size + 1, 3, none⟩ (.string x.person)).setCell ⟨w.heap.size + 1, 4, none⟩ (.string x.by_)).setCell ⟨w.heap.size + 1, 5, none⟩ (.bool x.done)).setCell ⟨w.heap.size + 1, 6, none⟩ (.slice p x.answers.length c)) := (((((((Kept.refl _ _).then_setCell _ _ (fun h => h rfl)).then_setCell _ _ (fun h => h rfl)).then_setCell _ _ (fun h => h rfl)).then_setCell _ _ (fun h => h rfl)).then_setCell _ _ (fun h => h rfl)).then_setCell _ _ (fun h => h rfl)).then_setCell _ _ (fun h => h rfl)
  have hfa := Lib.hid (ha3.keep RAns.ok hke (fun _ h => h.elim) (ha3.notType hz3 (by decide)))
  have hfk := Lib.hid (((((((hk3.then_setNew ⟨w.heap.size + 1, 0, none⟩ (.int .i64 x.no) (show w.heap.size ≤ w.heap.size + 1 by omega)).then_setNew ⟨w.heap.size + 1, 1, none⟩ (.int .i64 x.tm) (show w.heap.size ≤ w.heap.size + 1 by omega)).then_setNew ⟨w.heap.size + 1, 2, none⟩ (.string x.paper) (show w.heap.size ≤ w.heap.size + 1 by omega)).then_setNew ⟨w.heap.size + 1, 3, none⟩ (.string x.person) (show w.heap.size ≤ w.heap.size + 1 by omega)).then_setNew ⟨w.heap.size + 1, 4, none⟩ (.string x.by_) (show w.heap.size ≤ w.heap.size + 1 by omega)).then_setNew ⟨w.heap.size + 1, 5, none⟩ (.bool x.done) (show w.heap.size ≤ w.heap.size + 1 by omega)).then_setNew ⟨w.heap.size + 1, 6, none⟩ (.slice p x.answers.length c) (show w.heap.size ≤ w.heap.size + 1 by omega))
  have q0 := cell_at (i := 0) hfin rfl
  have q1 := cell_at (i := 1) hfin rfl
  have q2 := cell_at (i := 2) hfin rfl
  have q3 := cell_at (i := 3) hfin rfl
  have q4 := cell_at (i := 4) hfin rfl
  have q5 := cell_at (i := 5) hfin rfl
  have q6 := cell_at (i := 6) hfin rfl
  clear hfin hke ha3 hk3 hz3 hr3 j0 j1 j2 j3 j4 j5 j6
  go_wp2_with fail
  refine bodyPost_ret (v := .agg (revC x p c)) ?_ rfl ⟨p, c, rfl, hfa.out, hfk.out⟩
  simp [results, Tryz.results51, go_sem, q0, q1, q2, q3, q4, q5, q6]

end Go.Proofs.YthhmgblcccbdaaaGreatDoor

/- Add and AddOf. -/
namespace Go.Proofs.YthhmgblcccbdaaaGreatDoor
open Go.RowKit

/-- A review with the next number. -/
def numR (xs : List Rev) (x : Rev) : Rev := ⟨(xs.length : Int) + 1, x.tm, x.paper, x.person, x.by_, x.done, x.answers⟩
/-- What is given back: the reviews with one more, or nothing and an error. -/
def AddV (z : Int) (xs : List Rev) (x : Rev) (e : Ending) (w' : World) : Prop :=
  (z = 0 → ∃ (p : Option Addr) (c : Nat), e = .returned (.tuple #[.slice p (xs.length + 1) c, .int .i64 0]) ∧ Sl RRev 7 (fun _ => True) w' p (xs.length + 1) (xs ++ [numR xs x])) ∧ (z ≠ 0 → e = .returned (.tuple #[.slice none 0 0, .int .i64 z]))
theorem AddV.bad {z : Int} {xs : List Rev} {x : Rev} {w' : World} (h : z ≠ 0) : AddV z xs x (.returned (.tuple #[.slice none 0 0, .int .i64 z])) w' := ⟨fun h0 => absurd h0 h, fun _ => rfl⟩
end Go.Proofs.YthhmgblcccbdaaaGreatDoor

/- The generator PairOf. -/
namespace Go.Proofs.YthhmgblcccbdaaaGreatDoor
open Go.RowKit

set_option maxRecDepth 100000 in
set_option maxHeartbeats 6400000 in
theorem pairOfS_any (σ : St) (n0 : Nat) (w0 : World) (a0 : Option Addr) (l0 c0 : Nat) (a1 : Option Addr) (l1 c1 : Nat) (a2 : Option Addr) (l2 c2 : Nat) (a3 : Option Addr) (l3 c3 : Nat) (a4 : Option Addr) (l4 c4 : Nat) (s : Set7) (hs0 : Str σ w0 n0) (hn : n0 ≤ 4611686018427100000) (his : SetIs (fun k => k ≠ σ.b) w0 a0 l0 a1 l1 a2 l2 a3 l3 a4 l4 s) (hl2 : l2 ≤ 1000) :
    Calls Tryz.prog 9 #[.pointer (some ⟨σ.b, 0, none⟩), .agg #[.slice a0 l0 c0, .slice a1 l1 c1, .slice a2 l2 c2, .slice a3 l3 c3, .slice a4 l4 c4, .int .i64 s.due, .int .i64 s.reply]] w0 (StPost σ n0 10 w0 PPrV) := by
  have hls := hs0.lt
  have hk1 : All w0 ((w0.alloc (.cells #[.slice a0 l0 c0, .slice a1 l1 c1, .slice a2 l2 c2, .slice a3 l3 c3, .slice a4 l4 c4, .int .i64 s.due, .int .i64 s.reply] 31)).alloc (.cells #[.string ⟨#[]⟩, .string ⟨#[]⟩] 38)) := (Kept.alloc _ _ _).then_alloc _
  have hblk := heap_old (.cells #[.string ⟨#[]⟩, .string ⟨#[]⟩] 38) (heap_at w0 (.cells #[.slice a0 l0 c0, .slice a1 l1 c1, .slice a2 l2 c2, .slice a3 l3 c3, .slice a4 l4 c4, .int .i64 s.due, .int .i64 s.reply] 31) _ rfl)
  have hrpk := heap_at (w0.alloc (.cells #[.slice a0 l0 c0, .slice a1 l1 c1, .slice a2 l2 c2, .slice a3 l3 c3, .slice a4 l4 c4, .int .i64 s.due, .int .i64 s.reply] 31)) (.cells #[.string ⟨#[]⟩, .string ⟨#[]⟩] 38) (w0.heap.size + 1) (by simp)
  have hs1 := hs0.keep hk1
  obtain ⟨xb, hxb⟩ : ∃ b, b = w0.heap.size := ⟨_, rfl⟩
  obtain ⟨rp, hrp⟩ : ∃ b, b = w0.heap.size + 1 := ⟨_, rfl⟩
  have HXBE := Lib.hid hxb
  have HRPE := Lib.hid hrp
  rw [← hxb] at hblk
  rw [← hrp] at hrpk
  have hxs : σ.b < xb := by omega
  have hrs : σ.b < rp := by omega
  have hrz : w0.heap.size ≤ rp := by omega
  have HXB := Lib.hid (show ∀ wx, But σ.b ((w0.alloc (.cells #[.slice a0 l0 c0, .slice a1 l1 c1, .slice a2 l2 c2, .slice a3 l3 c3, .slice a4 l4 c4, .int .i64 s.due, .int .i64 s.reply] 31)).alloc (.cells #[.string ⟨#[]⟩, .string ⟨#[]⟩] 38)) wx → SetAt xb (.slice a0 l0 c0) (.slice a1 l1 c1) (.slice a2 l2 c2) (.slice a3 l3 c3) (.slice a4 l4 c4) s.due s.reply wx from fun wx k => by
    have hb := k.heap hblk (by omega)
    exact ⟨cell_at (i := 0) hb rfl, cell_at (i := 1) hb rfl, cell_at (i := 2) hb rfl, cell_at (i := 3) hb rfl, cell_at (i := 4) hb rfl, cell_at (i := 5) hb rfl, cell_at (i := 6) hb rfl⟩)
  have HRP := Lib.hid (fun (wx : World) (k : But σ.b ((w0.alloc (.cells #[.slice a0 l0 c0, .slice a1 l1 c1, .slice a2 l2 c2, .slice a3 l3 c3, .slice a4 l4 c4, .int .i64 s.due, .int .i64 s.reply] 31)).alloc (.cells #[.string ⟨#[]⟩, .string ⟨#[]⟩] 38)) wx) => k.heap hrpk (by omega))
  have HIS := Lib.hid (fun (wx : World) (k : But σ.b ((w0.alloc (.cells #[.slice a0 l0 c0, .slice a1 l1 c1, .slice a2 l2 c2, .slice a3 l3 c3, .slice a4 l4 c4, .int .i64 s.due, .int .i64 s.reply] 31)).alloc (.cells #[.string ⟨#[]⟩, .string ⟨#[]⟩] 38)) wx) => (his.keep hk1.all).keep k)
  have HK1 := Lib.hid hk1
  have HN2 := Lib.hid his.pairs.len
  clear hk1 hblk hrpk hs0 his hxb hrp
  go_enter Tryz.func9, Tryz.ntmps9
  go_upto_region 1 with fail
  simp only [← HRPE.out]
  simp only [← HXBE.out]
  generalize (w0.alloc (.cells #[.slice a0 l0 c0, .slice a1 l1 c1, .slice a2 l2 c2, .slice a3 l3 c3, .slice a4 l4 c4, .int .i64 s.due, .int .i64 s.reply] 31)).alloc (.cells #[.string ⟨#[]⟩, .string ⟨#[]⟩] 38) = w1 at *
  obtain ⟨e0, e1, e2, e3, e4, e5, e6⟩ := HXB.out _ (Kept.refl _ _)
  have hl1 := hs1.lt
  have hb1 : But σ.b w1 w1 := Kept.refl _ _
  by_cases hz : l2 = 0
  case pos =>
    have hdz : ((l2 : Int) == 0) = true := by simp; omega
    clear hz
    go_wp2_with fail
    refine (some10_any σ n0 _ 2 2 [⟨#[112, 97]⟩, ⟨#[122, 122]⟩] _ (hs1.keep (Kept.alloc _ _ _)) (by omega) (Sl.lit_strs _ (heap_at w1 _ _ rfl) rfl (by omega)) (by omega) (by omega)).mono ?_
    rintro e w5 ⟨v, n5, rfl, ⟨pp, rfl, -, hz1⟩, hA5, hB5, hs5, hb5'⟩
    have hb5 := (hb1.then_alloc _).trans hb5'
    clear hb5'
    have hl5 := hs5.lt
    have hz5 := hb5.size
    go_wp2_with fail
    refine (some10_any σ n5 _ 2 2 [⟨#[122, 101, 100]⟩, ⟨#[98, 111, 98]⟩] _ (hs5.keep (Kept.alloc _ _ _)) (by omega) (Sl.lit_strs _ (heap_at w5 _ _ rfl) rfl (by omega)) (by omega) (by omega)).mono ?_
    rintro e w6 ⟨v, n6, rfl, ⟨pq, rfl, -, hz2⟩, hA6, hB6, hs6, hb6'⟩
    have hb6 := (hb5.then_alloc _).trans hb6'
    clear hb6' hb5 hs5
    have hl6 := hs6.lt
    have hp := HRP.out _ hb6
    have c0 := cell_at (i := 0) hp rfl
    have c1 := cell_at (i := 1) hp rfl
    have z0 := frozen_at (i := 0) hp
    have z1 := frozen_at (i := 1) hp
    have hp3' := heap_setCell_at _ rp 1 (.string pq) _ _ _ (heap_setCell_at w6 rp 0 (.string pp) _ _ _ hp)
    have hp3 : ((w6.setCell ⟨rp, 0, none⟩ (.string pp)).setCell ⟨rp, 1, none⟩ (.string pq)).heap[rp]? = some (.cells #[.string pp, .string pq] 38 (0, 0)) := by simpa using hp3'
    have hs3 : Str σ ((w6.setCell ⟨rp, 0, none⟩ (.string pp)).setCell ⟨rp, 1, none⟩ (.string pq)) n6 := (hs6.set _ _ (by dsimp only; omega)).set _ _ (by dsimp only; omega)
    have hb3 : But σ.b w0 ((w6.setCell ⟨rp, 0, none⟩ (.string pp)).setCell ⟨rp, 1, none⟩ (.string pq)) := ((HK1.out.all.trans hb6).then_setNew _ _ hrz).then_setNew _ _ hrz
    have q0 := cell_at (i := 0) hp3 rfl
    have q1 := cell_at (i := 1) hp3 rfl
    have HF3 := Lib.hid (show StPost σ n0 10 w0 PPrV (.returned (.agg #[.string pp, .string pq])) ((w6.setCell ⟨rp, 0, none⟩ (.string pp)).setCell ⟨rp, 1, none⟩ (.string pq)) from ⟨_, n6, rfl, ⟨Pair2.mk pp pq hz1 hz2, rfl⟩, by omega, by omega, hs3, hb3⟩)
    clear hp hp3 hp3' hs3 hb3
    go_wp2_with fail
    refine bodyPost_ret (v := .agg #[.string pp, .string pq]) ?_ rfl HF3.out
    simp [results, Tryz.results9, go_sem, q0, q1]
  case neg =>
    have hdz : ((l2 : Int) == 0) = false := by simp; omega
    have hl2p : 0 < l2 := by omega
    clear hz
    go_wp2_with fail
    refine (flip_any σ n0 10 _ hs1 (by omega) (by omega) (by omega)).mono ?_
    rintro e w2 ⟨v, n2, rfl, ⟨b, rfl⟩, hA2, hB2, hs2, hb2'⟩
    have hb2 : But σ.b w1 w2 := hb2'
    clear hb2' hs1 hb1
    have hl2s := hs2.lt
    cases b with
    | true =>
      go_wp2_with fail
      refine (some10_any σ n2 _ 2 2 [⟨#[112, 97]⟩, ⟨#[122, 122]⟩] _ (hs2.keep (Kept.alloc _ _ _)) (by omega) (Sl.lit_strs _ (heap_at w2 _ _ rfl) rfl (by omega)) (by omega) (by omega)).mono ?_
      rintro e w5 ⟨v, n5, rfl, ⟨pp, rfl, -, hz1⟩, hA5, hB5, hs5, hb5'⟩
      have hb5 := (hb2.then_alloc _).trans hb5'
      clear hb5'
      have hl5 := hs5.lt
      have hz5 := hb5.size
      go_wp2_with fail
      refine (some10_any σ n5 _ 2 2 [⟨#[122, 101, 100]⟩, ⟨#[98, 111, 98]⟩] _ (hs5.keep (Kept.alloc _ _ _)) (by omega) (Sl.lit_strs _ (heap_at w5 _ _ rfl) rfl (by omega)) (by omega) (by omega)).mono ?_
      rintro e w6 ⟨v, n6, rfl, ⟨pq, rfl, -, hz2⟩, hA6, hB6, hs6, hb6'⟩
      have hb6 := (hb5.then_alloc _).trans hb6'
      clear hb6' hb5 hs5
      have hl6 := hs6.lt
      have hp := HRP.out _ hb6
      have c0 := cell_at (i := 0) hp rfl
      have c1 := cell_at (i := 1) hp rfl
      have z0 := frozen_at (i := 0) hp
      have z1 := frozen_at (i := 1) hp
      have hp3' := heap_setCell_at _ rp 1 (.string pq) _ _ _ (heap_setCell_at w6 rp 0 (.string pp) _ _ _ hp)
      have hp3 : ((w6.setCell ⟨rp, 0, none⟩ (.string pp)).setCell ⟨rp, 1, none⟩ (.string pq)).heap[rp]? = some (.cells #[.string pp, .string pq] 38 (0, 0)) := by simpa using hp3'
      have hs3 : Str σ ((w6.setCell ⟨rp, 0, none⟩ (.string pp)).setCell ⟨rp, 1, none⟩ (.string pq)) n6 := (hs6.set _ _ (by dsimp only; omega)).set _ _ (by dsimp only; omega)
      have hb3 : But σ.b w0 ((w6.setCell ⟨rp, 0, none⟩ (.string pp)).setCell ⟨rp, 1, none⟩ (.string pq)) := ((HK1.out.all.trans hb6).then_setNew _ _ hrz).then_setNew _ _ hrz
      have q0 := cell_at (i := 0) hp3 rfl
      have q1 := cell_at (i := 1) hp3 rfl
      have HF3 := Lib.hid (show StPost σ n0 10 w0 PPrV (.returned (.agg #[.string pp, .string pq])) ((w6.setCell ⟨rp, 0, none⟩ (.string pp)).setCell ⟨rp, 1, none⟩ (.string pq)) from ⟨_, n6, rfl, ⟨Pair2.mk pp pq hz1 hz2, rfl⟩, by omega, by omega, hs3, hb3⟩)
      clear hp hp3 hp3' hs3 hb3
      go_wp2_with fail
      refine bodyPost_ret (v := .agg #[.string pp, .string pq]) ?_ rfl HF3.out
      simp [results, Tryz.results9, go_sem, q0, q1]
    | false =>
      clear e0 e1 e2 e3 e4 e5 e6
      go_wp2_with fail
      have HST := Lib.hid hs2
      clear hs2
      refine wp_region_inv 9 (by kernel_rfl) (by kernel_rfl) (by kernel_rfl) (GStr 1 σ n2 w2)
        (DL [PIs (.pointer (some ⟨xb, 2, none⟩)), PIs (.slice a2 l2 c2), PIs (.pointer (some ⟨σ.b, 0, none⟩)), PIs (.pointer (some ⟨xb, 2, none⟩)), PIs (.slice a2 l2 c2), PIs (.int .i64 l2), PNum (fun r => 0 ≤ r ∧ r < l2), PAtP a2 l2, PPrV]) (fun w w' => But σ.b w w')
        (DL.keep (by simp only [List.forall_mem_cons, List.not_mem_nil, false_implies, implies_true, and_true]; exact ⟨PIs.stays _ _, PIs.stays _ _, PIs.stays _ _, PIs.stays _ _, PIs.stays _ _, PIs.stays _ _, PNum.stays _ _, PAtP.stays _ _ _, PPrV.stays _⟩)) ?_ ?_ ?_
      · exact ⟨n2, Nat.le_refl _, by omega, HST.out.keep (Kept.drew _ _), Kept.drew _ _⟩
      · intro i o t ho hd hi k' a' wx hk hg hdf hts hoth hdeps
        obtain ⟨m, hm1, hm2, hst, hbut⟩ := hg
        have hlt9 := hst.lt
        have hszx := hbut.size
        obtain ⟨e0', e1', e2', e3', e4', e5', e6'⟩ := HXB.out wx (hb2.trans hbut)
        have hz : i = 0 ∨ i = 1 ∨ i = 2 ∨ i = 3 ∨ i = 4 ∨ i = 5 ∨ i = 6 ∨ i = 7 ∨ i = 8 := by omega
        rcases hz with rfl | rfl | rfl | rfl | rfl | rfl | rfl | rfl | rfl
        · obtain rfl := Option.some.inj ho
          obtain rfl := Option.some.inj hd
          have e0 : a'.tmps.getD 3 undef = (.pointer (some ⟨xb, 0, none⟩)) := tmp_of ((hoth 3 (by decide)).trans rfl)
          clear hoth hdeps hdf hts ho
          refine wp_via (fun K' hK => ?_)
          have HK := Lib.hid hK
          clear hK
          go_simp
          exact HK.out _ _ ⟨_, rfl, GStr.same hm1 hm2 hst hbut, Kept.refl _ _, rfl⟩
        · obtain rfl := Option.some.inj ho
          obtain rfl := Option.some.inj hd
          have e0 : a'.tmps.getD 20 undef = (.pointer (some ⟨xb, 2, none⟩)) := hdeps 0 (by decide) 20 rfl
          clear hoth hdeps hdf hts ho
          refine wp_via (fun K' hK => ?_)
          have HK := Lib.hid hK
          clear hK
          go_simp
          exact HK.out _ _ ⟨_, rfl, GStr.same hm1 hm2 hst hbut, Kept.refl _ _, rfl⟩
        · obtain rfl := Option.some.inj ho
          obtain rfl := Option.some.inj hd
          have e0 : a'.tmps.getD 0 undef = (.pointer (some ⟨σ.b, 0, none⟩)) := tmp_of ((hoth 0 (by decide)).trans rfl)
          clear hoth hdeps hdf hts ho
          refine wp_via (fun K' hK => ?_)
          have HK := Lib.hid hK
          clear hK
          go_simp
          exact HK.out _ _ ⟨_, rfl, GStr.same hm1 hm2 hst hbut, Kept.refl _ _, rfl⟩
        · obtain rfl := Option.some.inj ho
          obtain rfl := Option.some.inj hd
          have e0 : a'.tmps.getD 3 undef = (.pointer (some ⟨xb, 0, none⟩)) := tmp_of ((hoth 3 (by decide)).trans rfl)
          clear hoth hdeps hdf hts ho
          refine wp_via (fun K' hK => ?_)
          have HK := Lib.hid hK
          clear hK
          go_simp
          exact HK.out _ _ ⟨_, rfl, GStr.same hm1 hm2 hst hbut, Kept.refl _ _, rfl⟩
        · obtain rfl := Option.some.inj ho
          obtain rfl := Option.some.inj hd
          have e0 : a'.tmps.getD 23 undef = (.pointer (some ⟨xb, 2, none⟩)) := hdeps 3 (by decide) 23 rfl
          clear hoth hdeps hdf hts ho
          refine wp_via (fun K' hK => ?_)
          have HK := Lib.hid hK
          clear hK
          go_simp
          exact HK.out _ _ ⟨_, rfl, GStr.same hm1 hm2 hst hbut, Kept.refl _ _, rfl⟩
        · obtain rfl := Option.some.inj ho
          obtain rfl := Option.some.inj hd
          have e0 : a'.tmps.getD 24 undef = (.slice a2 l2 c2) := hdeps 4 (by decide) 24 rfl
          clear hoth hdeps hdf hts ho
          refine wp_via (fun K' hK => ?_)
          have HK := Lib.hid hK
          clear hK
          go_simp
          exact HK.out _ _ ⟨_, rfl, GStr.same hm1 hm2 hst hbut, Kept.refl _ _, rfl⟩
        · obtain rfl := Option.some.inj ho
          obtain rfl := Option.some.inj hd
          have e0 : a'.tmps.getD 22 undef = (.pointer (some ⟨σ.b, 0, none⟩)) := hdeps 2 (by decide) 22 rfl
          have e1 : a'.tmps.getD 25 undef = .int .i64 l2 := hdeps 5 (by decide) 25 rfl
          clear hoth hdeps hdf hts ho
          refine wp_via (fun K' hK => ?_)
          have HK := Lib.hid hK
          clear hK
          go_simp
          refine (next_any σ m (l2 : Int) _ hst (by omega) (by omega) (by omega)).mono ?_
          rintro e w2x ⟨v, m2, rfl, ⟨r, rfl, hr1, hr2⟩, hm3, hm4, hst2, hb2x⟩
          exact HK.out _ _ ⟨_, rfl, GStr.call hm1 hm2 hbut hm3 (by omega) hst2 hb2x, hb2x, ⟨r, rfl, hr1, hr2⟩⟩
        · obtain rfl := Option.some.inj ho
          obtain rfl := Option.some.inj hd
          have e0 : a'.tmps.getD 21 undef = (.slice a2 l2 c2) := hdeps 1 (by decide) 21 rfl
          obtain ⟨r, e1, hr1, hr2⟩ : PNum (fun r => 0 ≤ r ∧ r < l2) (a'.tmps.getD 26 undef) wx := hdeps 6 (by decide) 26 rfl
          obtain ⟨ri, rfl⟩ := Int.eq_ofNat_of_zero_le hr1
          have hri : ri < l2 := by omega
          obtain ⟨b2, o2, ha2, -⟩ := (HIS.out wx (hb2.trans hbut)).pairs.2 hl2p
          rw [ha2] at e0
          clear hoth hdeps hdf hts ho
          refine wp_via (fun K' hK => ?_)
          have HK := Lib.hid hK
          clear hK
          go_simp
          exact HK.out _ _ ⟨_, rfl, GStr.same hm1 hm2 hst hbut, Kept.refl _ _, ⟨b2, o2, ri, ha2, hri, rfl⟩⟩
        · obtain rfl := Option.some.inj ho
          obtain rfl := Option.some.inj hd
          obtain ⟨b2, o2, ri, ha2, hri, e0⟩ : PAtP a2 l2 (a'.tmps.getD 27 undef) wx := hdeps 7 (by decide) 27 rfl
          obtain ⟨b3, o3, y, ha3, -, d0, d1, -, -, -⟩ := (HIS.out wx (hb2.trans hbut)).pairs.atPair hri
          rw [ha2] at ha3
          injection ha3 with ha3
          injection ha3 with h1 h2 _
          subst h1 h2
          clear hoth hdeps hdf hts ho
          refine wp_via (fun K' hK => ?_)
          have HK := Lib.hid hK
          clear hK
          go_simp
          exact HK.out _ _ ⟨_, rfl, GStr.same hm1 hm2 hst hbut, Kept.refl _ _, ⟨y, rfl⟩⟩
      · intro wx f hg hd
        obtain ⟨m, hm1, hm2, hst, hbut⟩ := hg
        obtain ⟨y, e28⟩ : PPrV (f 28) wx := hd 8 28 (by decide) rfl
        rw [show dsts _ 9 = [20, 21, 22, 23, 24, 25, 26, 27, 28] from by kernel_rfl]
        simp only [List.map_cons, List.map_nil, puts, Act.put, e28, List.drop_succ_cons, List.drop_zero]
        generalize f 20 = f20
        generalize f 21 = f21
        generalize f 22 = f22
        generalize f 23 = f23
        generalize f 24 = f24
        generalize f 25 = f25
        generalize f 26 = f26
        generalize f 27 = f27
        clear hd e28
        simp only [List.setIfInBounds_toArray, List.set_cons_zero, List.set_cons_succ]
        have hbx := hb2.trans hbut
        have hlx := hst.lt
        have hy1 := y.h1
        have hy2 := y.h2
        have hp := HRP.out _ hbx
        have c0 := cell_at (i := 0) hp rfl
        have c1 := cell_at (i := 1) hp rfl
        have z0 := frozen_at (i := 0) hp
        have z1 := frozen_at (i := 1) hp
        have hp3' := heap_setCell_at _ rp 1 (.string y.person) _ _ _ (heap_setCell_at wx rp 0 (.string y.paper) _ _ _ hp)
        have hp3 : ((wx.setCell ⟨rp, 0, none⟩ (.string y.paper)).setCell ⟨rp, 1, none⟩ (.string y.person)).heap[rp]? = some (.cells #[.string y.paper, .string y.person] 38 (0, 0)) := by simpa using hp3'
        have hs3 : Str σ ((wx.setCell ⟨rp, 0, none⟩ (.string y.paper)).setCell ⟨rp, 1, none⟩ (.string y.person)) m := (hst.set _ _ (by dsimp only; omega)).set _ _ (by dsimp only; omega)
        have hb3 : But σ.b w0 ((wx.setCell ⟨rp, 0, none⟩ (.string y.paper)).setCell ⟨rp, 1, none⟩ (.string y.person)) := ((HK1.out.all.trans hbx).then_setNew _ _ hrz).then_setNew _ _ hrz
        have q0 := cell_at (i := 0) hp3 rfl
        have q1 := cell_at (i := 1) hp3 rfl
        have HF3 := Lib.hid (show StPost σ n0 10 w0 PPrV (.returned (.agg #[.string y.paper, .string y.person])) ((wx.setCell ⟨rp, 0, none⟩ (.string y.paper)).setCell ⟨rp, 1, none⟩ (.string y.person)) from ⟨_, m, rfl, ⟨Pair2.mk y.paper y.person hy1 hy2, rfl⟩, by omega, by omega, hs3, hb3⟩)
        clear hp hp3 hp3' hs3 hb3
        go_wp2_with fail
        refine bodyPost_ret (v := .agg #[.string y.paper, .string y.person]) ?_ rfl HF3.out
        simp [results, Tryz.results9, go_sem, q0, q1]
end Go.Proofs.YthhmgblcccbdaaaGreatDoor
