/- The generator Marks10. -/
import Derived.Test.YtiecaedgphdfdaaGreatDoorRh
import Derived.Test.YtiecaedgphdfdaaGreatDoorRa
namespace Go.Proofs.YtiecaedgphdfdaaGreatDoor
open Go.RowKit

section
variable {T : TypeId} {F : Nat → Prop} {B g n cap : Nat} {w : World} {xs : List Mark3} {cur : Array Value}
theorem Acc.markRow {v : Value} (h : Acc RMark 3 T F B w v xs) (hl : 0 < xs.length) :
    ∃ g cap cur, v = .slice (some ⟨g, 0, none⟩) xs.length cap ∧ B ≤ g ∧ w.heap[g]? = some (.cells cur T (0, 0)) ∧ xs.length ≤ cap ∧ cap ≤ maxLen ∧ cur.size = cap * 3 := by
  obtain ⟨cells, ho, he⟩ := h
  rcases ho.2 with ⟨-, h0⟩ | ⟨g, cap, cur, hv, hb, hg, h1, h2, h3, -⟩
  · omega
  · exact ⟨g, cap, cur, hv, hb, hg, h1, h2, h3⟩
theorem Acc.markCells (hg : w.heap[g]? = some (.cells cur T (0, 0))) (hb : B ≤ g) (hn : xs.length = n) (h1 : n ≤ cap) (h2 : cap ≤ maxLen) (h3 : cur.size = cap * 3)
    (hc : ∀ (i : Nat) (x : Mark3), xs[i]? = some x → cur[i * 3]? = some (.string x.paper) ∧ cur[i * 3 + 1]? = some (.string x.person) ∧ cur[i * 3 + 2]? = some (.int .i64 x.score) ∧ x.paper.size ≤ 1000000 ∧ x.person.size ≤ 1000000) : Acc RMark 3 T F B w (.slice (some ⟨g, 0, none⟩) n cap) xs := by
  have hle : n * 3 ≤ cap * 3 := Nat.mul_le_mul_right _ h1
  have hl : (cur.toList.take (n * 3)).length = n * 3 := by simp; omega
  refine ⟨cur.toList.take (n * 3), ⟨by rw [hl, hn], .inr ⟨g, cap, cur, by rw [hn], hb, hg, by omega, h2, h3, by rw [hn]⟩⟩, fun i hi => ?_⟩
  obtain ⟨e0, e1, e2, e3, e4⟩ := hc i _ (List.getElem?_eq_getElem hi)
  have f0 : (cur.toList.take (n * 3))[i * 3]? = some (.string xs[i].paper) := by
    rw [List.getElem?_take_of_lt (by omega), Array.getElem?_toList]; exact e0
  have f1 : (cur.toList.take (n * 3))[i * 3 + 1]? = some (.string xs[i].person) := by
    rw [List.getElem?_take_of_lt (by omega), Array.getElem?_toList]; exact e1
  have f2 : (cur.toList.take (n * 3))[i * 3 + 2]? = some (.int .i64 xs[i].score) := by
    rw [List.getElem?_take_of_lt (by omega), Array.getElem?_toList]; exact e2
  obtain ⟨k0, d0⟩ := List.getElem?_eq_some_iff.1 f0
  obtain ⟨k1, d1⟩ := List.getElem?_eq_some_iff.1 f1
  obtain ⟨k2, d2⟩ := List.getElem?_eq_some_iff.1 f2
  refine ⟨?_, e3, e4⟩
  rw [List.drop_eq_getElem_cons k0, List.drop_eq_getElem_cons k1, List.drop_eq_getElem_cons k2, List.take_succ_cons, List.take_succ_cons, List.take_succ_cons, List.take_zero, d0, d1, d2]
theorem Acc.markAt (h : Acc RMark 3 T F B w (.slice (some ⟨g, 0, none⟩) n cap) xs) (hg : w.heap[g]? = some (.cells cur T (0, 0))) {i : Nat} {x : Mark3} (hx : xs[i]? = some x) :
    cur[i * 3]? = some (.string x.paper) ∧ cur[i * 3 + 1]? = some (.string x.person) ∧ cur[i * 3 + 2]? = some (.int .i64 x.score) ∧ x.paper.size ≤ 1000000 ∧ x.person.size ≤ 1000000 := by
  obtain ⟨a, c, hv, hs⟩ := h.sl RMark.ok (by decide) (G := fun _ => True) (fun _ _ => trivial) (fun _ _ => trivial)
  cases hv
  obtain ⟨hi, -⟩ := List.getElem?_eq_some_iff.1 hx
  obtain ⟨b, off, y, ha, -, c0, c1, c2, z1, z2, hy, -, -⟩ := hs.atMark hi
  cases ha
  rw [hx] at hy
  injection hy with hy
  subst hy
  simp only [World.cell?, hg, Nat.zero_add] at c0 c1 c2
  refine ⟨by simpa using c0, by simpa using c1, by simpa using c2, z1, z2⟩
theorem Acc.setMark (h : Acc RMark 3 T F B w (.slice (some ⟨g, 0, none⟩) n cap) xs) (i d : Nat) (hi : i < n) (u : Value) (y x : Mark3) (hx : xs[i]? = some x) (hy1 : y.paper.size ≤ 1000000) (hy2 : y.person.size ≤ 1000000)
    (h0 : (d = 0 ∧ u = .string y.paper ∧ y.person = x.person ∧ y.score = x.score) ∨ (d = 2 ∧ u = .int .i64 y.score ∧ y.person = x.person ∧ y.paper = x.paper)) :
    Acc RMark 3 T F B (w.setCell ⟨g, i * 3 + d, none⟩ u) (.slice (some ⟨g, 0, none⟩) n cap) (xs.set i y) := by
  obtain ⟨a, c, hv, -⟩ := h.form
  cases hv
  obtain ⟨g', cap', cur, hv', hb, hg, h1, h2, h3⟩ := h.markRow (by omega)
  cases hv'
  have e0 := heap_setCell_at w g (i * 3 + d) u _ _ _ hg
  have hle : (i + 1) * 3 ≤ cap * 3 := Nat.mul_le_mul_right _ (by omega)
  refine Acc.markCells e0 hb (by simp) h1 h2 (by simpa using h3) (fun j z hz => ?_)
  by_cases hj : j = i
  · subst hj
    rw [List.getElem?_set_self hi] at hz
    injection hz with hz
    subst hz
    obtain ⟨c0, c1, c2, -, -⟩ := h.markAt hg hx
    rcases h0 with ⟨rfl, rfl, e1, e2⟩ | ⟨rfl, rfl, e1, e2⟩
    · refine ⟨?_, ?_, ?_, hy1, hy2⟩
      · rw [Nat.add_zero, Array.getElem?_setIfInBounds_self_of_lt (by omega)]
      · rw [Array.getElem?_setIfInBounds_ne (by omega), c1, e1]
      · rw [Array.getElem?_setIfInBounds_ne (by omega), c2, e2]
    · refine ⟨?_, ?_, ?_, hy1, hy2⟩
      · rw [Array.getElem?_setIfInBounds_ne (by omega), c0, e2]
      · rw [Array.getElem?_setIfInBounds_ne (by omega), c1, e1]
      · rw [Array.getElem?_setIfInBounds_self_of_lt (by omega)]
  · rw [List.getElem?_set_ne (fun e => hj e.symm)] at hz
    have := h.markAt hg hz
    have hd : d ≤ 2 := by rcases h0 with ⟨rfl, -⟩ | ⟨rfl, -⟩ <;> omega
    rw [Array.getElem?_setIfInBounds_ne (by omega), Array.getElem?_setIfInBounds_ne (by omega), Array.getElem?_setIfInBounds_ne (by omega)]
    exact this
end

def IsMarks (B mx : Nat) (v : Value) (w : World) : Prop := ∃ xs : List Mark3, xs.length ≤ mx ∧ Acc RMark 3 132 (fun _ => False) B w v xs

set_option maxRecDepth 100000 in
set_option maxHeartbeats 6400000 in
theorem marks10_any (σ : St) (n : Nat) (w : World) (hs : Str σ w n) (hn : n ≤ 4611686018427200000) :
    Calls Tryz.prog 22 #[.pointer (some ⟨σ.b, 0, none⟩)] w (StPost σ n 100 w (IsMarks w.heap.size 21)) := by
  have hlt := hs.lt
  go_enter Tryz.func22, Tryz.ntmps22
  go_wp2_with fail
  refine (range_any σ n 0 14 _ (hs.keep (by repeat (first | exact Kept.refl _ _ | refine Kept.then_drew ?_ | refine Kept.then_drewN ?_ _ | refine Kept.then_alloc ?_ _))) (by omega) (by omega) (by omega) (by omega)).mono ?_
  rintro e w1 ⟨v, n1, rfl, ⟨r1, rfl, hr1, hr2⟩, hn1, hn2, hs1, hb1⟩
  obtain ⟨M, rfl⟩ := Int.eq_ofNat_of_zero_le hr1
  have hw1 : But σ.b w w1 := (Kept.all ((by repeat (first | exact Kept.refl _ _ | refine Kept.then_drew ?_ | refine Kept.then_drewN ?_ _ | refine Kept.then_alloc ?_ _)) : All w _)).trans hb1
  have hA := hb1.heap (heap_old _ (heap_at w (.cells #[.string ⟨#[112, 97]⟩, .string ⟨#[112, 98]⟩, .string ⟨#[112, 99]⟩, .string ⟨#[112, 100]⟩, .string ⟨#[112, 101]⟩] 9) _ rfl)) (by omega)
  have hP := hb1.heap (heap_at (w.alloc (.cells #[.string ⟨#[112, 97]⟩, .string ⟨#[112, 98]⟩, .string ⟨#[112, 99]⟩, .string ⟨#[112, 100]⟩, .string ⟨#[112, 101]⟩] 9)) (.cells #[.string ⟨#[97, 110, 110]⟩, .string ⟨#[98, 111, 98]⟩, .string ⟨#[99, 105, 100]⟩, .string ⟨#[100, 101, 101]⟩] 9) (w.heap.size + 1) (by simp)) (by omega)
  go_wp2_with fail
  refine (pairs10_any σ n1 _ 5 _ [⟨#[112, 97]⟩, ⟨#[112, 98]⟩, ⟨#[112, 99]⟩, ⟨#[112, 100]⟩, ⟨#[112, 101]⟩] _ 4 _ [⟨#[97, 110, 110]⟩, ⟨#[98, 111, 98]⟩, ⟨#[99, 105, 100]⟩, ⟨#[100, 101, 101]⟩] M _ hs1 (by omega) (Sl.lit_strs _ hA rfl (by omega)) (Sl.lit_strs _ hP rfl (by omega)) (by omega) (by omega) (by omega) (by omega) (by omega)).mono ?_
  rintro e w2 ⟨vp, n2, rfl, ⟨ps, hpl, haccp⟩, hn3, hn4, hs2, hb2⟩
  have hw2 := hw1.trans hb2
  have hsz1 := hw1.size
  obtain ⟨aP, cP, rfl, hslP⟩ := haccp.sl RPair.ok (by decide) (G := fun k => k ≠ σ.b) (fun _ h => h.elim) (fun k hk => by have := (haccp.lt k hk).1; omega)
  obtain ⟨np, hnp⟩ : ∃ np, np = ps.length := ⟨_, rfl⟩
  rw [← hnp] at hslP hpl ⊢
  clear hnp haccp hA hP hb1 hb2 hs1 hw1
  have hs2lt := hs2.lt
  have hn0 : n ≤ n2 := by omega
  have hn0' : n2 ≤ n + 41 := by omega
  clear hn1 hn2 hn3 hn4 hr1 hr2
  go_wp2_with fail
  go_loopw [3, 14] (fun o i wr => ∃ k : Nat, k ≤ np ∧ i = .int .i64 k ∧ ∃ (xs : List Mark3) (n' : Nat), xs.length ≤ k ∧ Acc RMark 3 132 (fun _ => False) w2.heap.size wr o xs ∧ Str σ wr n' ∧ n2 ≤ n' ∧ n' ≤ n2 + k ∧ But σ.b w2 wr) (fun _ i _ => np - (intOf i).toNat)
  case atStart => exact ⟨0, Nat.zero_le _, rfl, [], n2, Nat.le_refl _, Acc.nil _ _ _ _ _ _, hs2, Nat.le_refl _, by omega, Kept.refl _ _⟩
  case round =>
    obtain ⟨k, hk, rfl, xs, n', hxl, hacc, hs', hn1, hn2, hwr⟩ := hrel
    obtain ⟨wo, rfl⟩ : ∃ wo : World, wo = wr := ⟨_, rfl⟩
    have hwo := hw2.trans hwr
    by_cases hlt2 : k < np
    · obtain ⟨b, off, x, ha, -, c0, c1, -, -, -⟩ := (hslP.keep RPair.ok hwr).atPair hlt2
      subst ha
      have hblk := heap_at wo (.cells #[.string x.paper, .string x.person] 95) _ rfl
      have e0 := cell_at (i := 0) hblk rfl
      have e1 := cell_at (i := 1) hblk rfl
      have hbase := hwo.size
      have hx1 := x.h1
      have hx2 := x.h2
      have hlt3 := hs'.lt
      have hplb : xs.length + 1 ≤ 1000000000 := by omega
      have hacca := hacc.keepAll RMark.ok (Kept.alloc (fun _ => True) wo (.cells #[.string x.paper, .string x.person] 95))
      have hsa := hs'.keep (Kept.alloc (fun _ => True) wo (.cells #[.string x.paper, .string x.person] 95))
      have hwa : But σ.b w (wo.alloc (.cells #[.string x.paper, .string x.person] 95)) := hwo.then_alloc _
      have hwra : But σ.b w2 (wo.alloc (.cells #[.string x.paper, .string x.person] 95)) := hwr.then_alloc _
      clear hblk hacc hs'
      go_wp2_with fail
      generalize wo.alloc (.cells #[.string x.paper, .string x.person] 95) = wa at *
      have hla := hsa.lt
      have hwas := hwra.size
      have hlit : (wa.alloc (.cells #[.int .i64 0, .int .i64 3, .int .i64 5, .int .i64 5, .int .i64 6, .int .i64 7, .int .i64 8, .int .i64 10] 3)).drew.heap[wa.heap.size]? = some (.cells #[.int .i64 0, .int .i64 3, .int .i64 5, .int .i64 5, .int .i64 6, .int .i64 7, .int .i64 8, .int .i64 10] 3 (0, 0)) := heap_at wa _ _ rfl
      have hpk : Sl RInt 1 (fun k => k ≠ σ.b) (wa.alloc (.cells #[.int .i64 0, .int .i64 3, .int .i64 5, .int .i64 5, .int .i64 6, .int .i64 7, .int .i64 8, .int .i64 10] 3)).drew (some ⟨wa.heap.size, 0, none⟩) 8 [0, 3, 5, 5, 6, 7, 8, 10] := Sl.lit_ints [0, 3, 5, 5, 6, 7, 8, 10] hlit rfl (by omega)
      have hsd : Str σ (wa.alloc (.cells #[.int .i64 0, .int .i64 3, .int .i64 5, .int .i64 5, .int .i64 6, .int .i64 7, .int .i64 8, .int .i64 10] 3)).drew n' := hsa.keep ((Kept.alloc _ _ _).then_drew)
      have hkd : All wa (wa.alloc (.cells #[.int .i64 0, .int .i64 3, .int .i64 5, .int .i64 5, .int .i64 6, .int .i64 7, .int .i64 8, .int .i64 10] 3)).drew := (Kept.alloc _ _ _).then_drew
      have e0d := hkd.cell e0 trivial
      have e1d := hkd.cell e1 trivial
      clear hlit
      go_region_law (first
        | (refine step_append1 RMark.ok _ (by rfl) _ _ 54 (by rfl) w2.heap.size 132 (.agg #[.string ⟨#[]⟩, .string ⟨#[]⟩, .int .i64 0]) 3 40 Tryz.underlying54 (by kernel_rfl) rfl (by decide) (fun _ => False) u3 xs (by rfl) (hacc1.keepAll RMark.ok (by repeat (first | exact Kept.refl _ _ | refine Kept.then_drew ?_ | refine Kept.then_drewN ?_ _ | refine Kept.then_alloc ?_ _))) ⟨w6.heap.size, 0, none⟩ 1 [.string x.paper, .string x.person, .int .i64 sc] (by rfl) rfl (World.news_of_block (cs := #[.string x.paper, .string x.person, .int .i64 sc]) (t := 132) (fr := (0, 0)) (heap_alloc_new w6 _)) (by simp [Value.oneCell']) ⟨x.paper, x.person, sc⟩ ⟨rfl, hx1, hx2⟩ hplb (by decide) (by have := hb1.size; simp; omega) ?_; intro p8 c8 w8 hacc8 hgrow hat8)
        | (go_simp; go_at_call 9; refine (pick_any σ n' _ 8 8 [0, 3, 5, 5, 6, 7, 8, 10] _ hsd (by omega) hpk (by omega) (by omega)).mono ?_; rintro e w6 ⟨v, n6, rfl, ⟨sc, rfl, -⟩, hn3, hn4, hs6, hb6⟩; have hb1 : But σ.b wa w6 := (Kept.all hkd).trans hb6; have hacc1 := hacca.keep RMark.ok hb1 (fun _ h => h.elim) (fun k hk => by have := (hacca.lt k hk).1; omega); have e0' := hb1.cell e0 (by simp; omega); have e1' := hb1.cell e1 (by simp; omega)))
      all_goals
        have hkr := Lib.hid (fun k (hk : u3.ownBlock = some k) => (hacc1.lt k hk).1)
        have hk8 : Kept (fun k => u3.ownBlock ≠ some k) w6 w8 := (Kept.grown (Kept.all ((by repeat (first | exact Kept.refl _ _ | refine Kept.then_drew ?_ | refine Kept.then_drewN ?_ _ | refine Kept.then_alloc ?_ _)) : All w6 _)) hgrow (fun k hk => Or.inr (fun h => h hk)))
        have hsz2 := hw2.size
        have hw8 : But σ.b w2 w8 := (hwra.trans hb1).trans2 hk8 (fun i hi _ e => by have := hkr.out i e; omega)
        have hs8 := hs6.kept hk8 (fun k hk e => by have := hkr.out k e; omega)
        clear hgrow hat8 hacca hacc1 hk8 hb1 hb6 hs6 hwa hwra e0 e1 e0' e1' e0d e1d hsd hpk hkd
        go_wp2_with fail
        go_roundw
        case rel => exact ⟨k + 1, by omega, by go_num, _, n6, by simp; omega, hacc8, hs8, by omega, by omega, hw8⟩
        case measure => simp [intOf]; omega
    · have hdk : decide ((k : Int) < (np : Int)) = false := by simp; omega
      obtain ⟨ao, co, rfl, -⟩ := hacc.form
      obtain ⟨m, hm⟩ : ∃ m, m = xs.length := ⟨_, rfl⟩
      have HM := Lib.hid hm
      rw [← hm] at hacc hxl ⊢
      have hbw := hw2.size
      have hlt3 := hs'.lt
      clear hm hs2 hslP
      by_cases hm0 : m = 0
      · subst hm0
        go_wp2_with fail
        go_ret
        exact ⟨_, n', rfl, ⟨xs, by have := HM.out; omega, hacc.base hbw⟩, by omega, by omega, hs', hwo⟩
      · have hd1 : decide (0 < m) = true := by simp; omega
        have hd2 : decide ((0 : Int) < (m : Int)) = true := by simp; omega
        have hmp : 0 < m := by omega
        go_wp2_with fail
        refine (flip_any σ n' 20 _ hs' (by omega) (by omega) (by omega)).mono ?_
        rintro e w3 ⟨v, n3, rfl, ⟨r, rfl⟩, hn3, hn4, hs3, hb3⟩
        have hw3 := hwo.trans hb3
        have hacc3 := hacc.keep RMark.ok hb3 (fun _ h => h.elim) (fun k hk => by have := (hacc.lt k hk).1; omega)
        clear hacc hs' hb3 hwo hwr
        cases r
        · go_wp2_with fail
          go_ret
          exact ⟨_, n3, rfl, ⟨xs, by have := HM.out; omega, hacc3.base hbw⟩, by omega, by omega, hs3, hw3⟩
        · go_wp2_with fail
          refine (next_any σ n3 m _ hs3 (by omega) (by omega) (by omega)).mono ?_
          rintro e w4 ⟨v, n4, rfl, ⟨r, rfl, hr1, hr2⟩, hn5, hn6, hs4, hb4⟩
          obtain ⟨i, rfl⟩ := Int.eq_ofNat_of_zero_le hr1
          have hw4 := hw3.trans hb4
          have hacc4 := hacc3.keep RMark.ok hb4 (fun _ h => h.elim) (fun k hk => by have := (hacc3.lt k hk).1; omega)
          obtain ⟨g, cap, cur, hv, hbg, hg4, h1c, h2c, h3c⟩ := hacc4.markRow (by have := HM.out; omega)
          have hgc : ao = some ⟨g, 0, none⟩ ∧ cap = co := by have := HM.out; cases hv; exact ⟨rfl, rfl⟩
          obtain ⟨rfl, rfl⟩ := hgc
          have him : i < m := by omega
          clear hacc3 hs3 hb4 hw3 hv
          go_wp2_with fail
          refine (next_any σ n4 3 _ hs4 (by omega) (by omega) (by omega)).mono ?_
          rintro e w5 ⟨v, n5, rfl, ⟨r2, rfl, hr3, hr4⟩, hn7, hn8, hs5, hb5⟩
          have hw5 := hw4.trans hb5
          have hacc5 := hacc4.keep RMark.ok hb5 (fun _ h => h.elim) (fun k hk => by have := (hacc4.lt k hk).1; omega)
          have hgσ : g ≠ σ.b := by omega
          have hg5 := hb5.heap hg4 hgσ
          clear hacc4 hs4 hb5 hw4 hg4
          have hgs : σ.b < g := by omega
          obtain ⟨x, hx, -, -⟩ := list_at (xs := xs) (k := i) (by have := HM.out; omega)
          obtain ⟨m0, m1, m2, mz1, mz2⟩ := hacc5.markAt hg5 hx
          have Hx := Lib.hid hx
          have hset : ∀ y : Mark3, (xs.set i y).length ≤ 21 := fun y => by have := HM.out; simp; omega
          clear hx
          have hr5 : r2 = 0 ∨ r2 = 1 ∨ r2 = 2 := by omega
          clear hr3 hr4
          rcases hr5 with rfl | rfl | rfl
          · go_wp2_with fail
            refine (odd10_any σ n5 0 10 _ hs5 (by omega) (by omega) (by omega) (by omega)).mono ?_
            rintro e w6 ⟨v, n6, rfl, ⟨z, rfl, -⟩, hn9, hn10, hs6, hb6⟩
            have hw6 := hw5.trans hb6
            have hg6 := hb6.heap hg5 hgσ
            have hacc6 := hacc5.keep RMark.ok hb6 (fun _ h => h.elim) (fun k hk => by have := (hacc5.lt k hk).1; omega)
            have d2 := cell_at (i := i * 3 + 2) hg6 m2
            have z2 := frozen_at (i := i * 3 + 2) hg6
            have hfin := Lib.hid ((hacc6.setMark i 2 him (.int .i64 z) ⟨x.paper, x.person, z⟩ x Hx.out mz1 mz2 (Or.inr ⟨rfl, rfl, rfl, rfl⟩)).base hbw)
            have hs7 := Lib.hid (hs6.set ⟨g, i * 3 + 2, none⟩ (.int .i64 z) hgs)
            have hw7 := Lib.hid (hw6.then_setNew ⟨g, i * 3 + 2, none⟩ (.int .i64 z) (by dsimp only; omega))
            clear hacc6 hs6 hb6 hw6 hg6 hacc5 hs5 hw5 hg5
            go_wp2_with fail
            go_ret
            exact ⟨_, n6, rfl, ⟨_, hset _, hfin.out⟩, by omega, by omega, hs7.out, hw7.out⟩
          · go_wp2_with fail
            refine (some10_any σ n5 _ 3 3 [⟨#[]⟩, ⟨#[65]⟩, ⟨#[112, 122]⟩] _ (hs5.keep (Kept.alloc _ _ _)) (by omega) (Sl.lit_strs _ (heap_at w5 _ _ rfl) rfl (by have := hs5.lt; omega)) (by omega) (by omega)).mono ?_
            rintro e w6 ⟨v, n6, rfl, ⟨z, rfl, -, hzz⟩, hn9, hn10, hs6, hb6⟩
            have hb7 : But σ.b w5 w6 := (Kept.alloc _ w5 (.cells #[.string ⟨#[]⟩, .string ⟨#[65]⟩, .string ⟨#[112, 122]⟩] 9)).trans hb6
            have hw6 := hw5.trans hb7
            have hg6 := hb7.heap hg5 hgσ
            have hacc6 := hacc5.keep RMark.ok hb7 (fun _ h => h.elim) (fun k hk => by have := (hacc5.lt k hk).1; omega)
            have d0 := cell_at (i := i * 3) hg6 m0
            have z0 := frozen_at (i := i * 3) hg6
            have hfin := Lib.hid ((hacc6.setMark i 0 him (.string z) ⟨z, x.person, x.score⟩ x Hx.out hzz mz2 (Or.inl ⟨rfl, rfl, rfl, rfl⟩)).base hbw)
            have hs7 := Lib.hid (hs6.set ⟨g, i * 3, none⟩ (.string z) hgs)
            have hw7 := Lib.hid (hw6.then_setNew ⟨g, i * 3, none⟩ (.string z) (by dsimp only; omega))
            clear hacc6 hs6 hb6 hb7 hw6 hg6 hacc5 hs5 hw5 hg5
            go_wp2_with fail
            go_ret
            exact ⟨_, n6, rfl, ⟨_, hset _, hfin.out⟩, by omega, by omega, hs7.out, hw7.out⟩
          · obtain ⟨x0, hx0, -, -⟩ := list_at (xs := xs) (k := 0) (by have := HM.out; omega)
            obtain ⟨q0, q1, q2, qz1, qz2⟩ := hacc5.markAt hg5 hx0
            have c0 := cell_at (i := 0) hg5 (by simpa using q0)
            have c1 := cell_at (i := 1) hg5 (by simpa using q1)
            have c2 := cell_at (i := 2) hg5 (by simpa using q2)
            have hplb : xs.length + 1 ≤ 1000000000 := by have := HM.out; omega
            have hg5l := (Array.getElem?_eq_some_iff.1 hg5).1
            have hlim : xs.length + 1 ≤ 21 := by have := HM.out; omega
            have hkr := Lib.hid (fun k (hk : (Value.slice (some ⟨g, 0, none⟩) m cap).ownBlock = some k) => (hacc5.lt k hk).1)
            clear q0 q1 q2 hx0 hg5 m0 m1 m2 hset
            go_wp2_with (at_builtin; refine wp_append1 RMark.ok _ rfl _ _ 54 rfl w2.heap.size 132 (.agg #[.string ⟨#[]⟩, .string ⟨#[]⟩, .int .i64 0]) 3 40 Tryz.underlying54 (by kernel_rfl) rfl (by decide) (fun _ => False) _ xs rfl (hacc5.keepAll RMark.ok (Kept.alloc _ _ _)) ⟨_, 0, none⟩ 1 [.string x0.paper, .string x0.person, .int .i64 x0.score] rfl rfl (World.news_of_block (cs := #[.string x0.paper, .string x0.person, .int .i64 x0.score]) (heap_alloc_new w5 _)) (by simp [Value.oneCell']) ⟨x0.paper, x0.person, x0.score⟩ ⟨rfl, qz1, qz2⟩ hplb (by decide) (by simp; omega) ?_)
            intro p8 c8 w8 hacc8 hgrow _
            have hk8 : Kept (fun k => (Value.slice (some ⟨g, 0, none⟩) m cap).ownBlock ≠ some k) w5 w8 := (Kept.grown (Kept.alloc _ _ _) hgrow (fun k hk => Or.inr (fun h => h hk)))
            have hw8 : But σ.b w w8 := hw5.trans2 hk8 (fun i hi _ e => by have := hkr.out i e; omega)
            have hs8 := hs5.kept hk8 (fun k hk e => by have := hkr.out k e; omega)
            have hfin := Lib.hid (hacc8.base hbw)
            clear hgrow hk8 hacc5 hs5 hw5 hacc8 c0 c1 c2
            go_wp2_with fail
            go_ret
            exact ⟨_, n5, rfl, ⟨_, by simp; omega, hfin.out⟩, by omega, by omega, hs8, hw8⟩
end Go.Proofs.YtiecaedgphdfdaaGreatDoor
