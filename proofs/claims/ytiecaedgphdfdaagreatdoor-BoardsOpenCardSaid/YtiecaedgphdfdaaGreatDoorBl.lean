/- The generator RightBoard. -/
import Derived.Test.YtiecaedgphdfdaaGreatDoorBe
import Derived.Test.YtiecaedgphdfdaaGreatDoorBc
import Derived.Test.YtiecaedgphdfdaaGreatDoorRh
import Derived.Test.YtiecaedgphdfdaaGreatDoorZi
namespace Go.Proofs.YtiecaedgphdfdaaGreatDoor
open Go.RowKit

theorem Acc.strLit {T : TypeId} {F : Nat → Prop} {B : Nat} {w : World} {b : Nat} {ss : List ByteArray} {c : Array Value} (hb : w.heap[b]? = some (.cells c T (0, 0))) (hc : c = (ss.map Value.string).toArray) (hB : B ≤ b) (hl : 0 < ss.length) (hm : ss.length ≤ 1000000) (hz : ∀ s ∈ ss, s.size ≤ 1000000) :
    Acc RStr 1 T F B w (.slice (some ⟨b, 0, none⟩) ss.length ss.length) ss := by
  subst hc
  refine ⟨ss.map Value.string, ⟨by simp, .inr ⟨b, ss.length, _, rfl, hB, hb, Nat.le_refl _, by unfold maxLen; omega, by simp, ?_⟩⟩, fun i hi => ⟨?_, hz _ (List.getElem_mem hi)⟩⟩
  · rw [List.take_of_length_le (by simp)]
  · have hi' : i < (ss.map Value.string).length := by simpa using hi
    rw [Nat.mul_one, List.drop_eq_getElem_cons hi', List.take_succ_cons, List.take_zero, List.getElem_map]

/-- A board of the call's own. -/
def IsBoard (m B : Nat) (v : Value) (w : World) : Prop :=
  ∃ (v0 v1 v2 v3 : Value) (b : Board4), v = .agg #[v0, v1, v2, v3] ∧ b.pairs.length ≤ m ∧ b.barred.length ≤ m ∧ b.heads.length ≤ m ∧ b.turns.length ≤ m ∧
    Acc RPair 2 95 (fun _ => False) B w v0 b.pairs ∧ Acc RPair 2 95 (fun _ => False) B w v1 b.barred ∧ Acc RStr 1 9 (fun _ => False) B w v2 b.heads ∧ Acc RTurn 3 152 (fun _ => False) B w v3 b.turns ∧
    ∀ k, v0.ownBlock = some k → v1.ownBlock ≠ some k

set_option maxRecDepth 100000 in
set_option maxHeartbeats 12800000 in
theorem rightBoard_any (σ : St) (n : Nat) (w : World) (hs : Str σ w n) (hn : n ≤ 4611686018427200000) :
    Calls Tryz.prog 88 #[.pointer (some ⟨σ.b, 0, none⟩)] w (StPost σ n 200 w (IsBoard 20 w.heap.size)) := by
  have hlt := hs.lt
  have hmm := @run_makeMap Tryz.prog
  go_enter Tryz.func88, Tryz.ntmps88
  go_wp2_with fail

  have g0 := heap_old (.cells #[.slice none 0 0, .slice (some ⟨w.heap.size + 1, 0, none⟩) 1 1, .slice (some ⟨w.heap.size + 1 + 1, 0, none⟩) 2 2] 56) (heap_old (.cells #[.string ⟨#[97, 110, 110]⟩, .string ⟨#[101, 118, 101]⟩] 9) (heap_old (.cells #[.string ⟨#[101, 118, 101]⟩] 9) (heap_at w (.cells #[.slice none 0 0, .slice none 0 0, .slice none 0 0, .slice none 0 0] 85) _ rfl)))
  have g1 := heap_old (.cells #[.slice none 0 0, .slice (some ⟨w.heap.size + 1, 0, none⟩) 1 1, .slice (some ⟨w.heap.size + 1 + 1, 0, none⟩) 2 2] 56) (heap_old (.cells #[.string ⟨#[97, 110, 110]⟩, .string ⟨#[101, 118, 101]⟩] 9) (heap_at (w.alloc (.cells #[.slice none 0 0, .slice none 0 0, .slice none 0 0, .slice none 0 0] 85)) (.cells #[.string ⟨#[101, 118, 101]⟩] 9) (w.heap.size + 1) (by simp)))
  have g2 := heap_old (.cells #[.slice none 0 0, .slice (some ⟨w.heap.size + 1, 0, none⟩) 1 1, .slice (some ⟨w.heap.size + 1 + 1, 0, none⟩) 2 2] 56) (heap_at ((w.alloc (.cells #[.slice none 0 0, .slice none 0 0, .slice none 0 0, .slice none 0 0] 85)).alloc (.cells #[.string ⟨#[101, 118, 101]⟩] 9)) (.cells #[.string ⟨#[97, 110, 110]⟩, .string ⟨#[101, 118, 101]⟩] 9) (w.heap.size + 1 + 1) (by simp))
  have g3 := heap_at (((w.alloc (.cells #[.slice none 0 0, .slice none 0 0, .slice none 0 0, .slice none 0 0] 85)).alloc (.cells #[.string ⟨#[101, 118, 101]⟩] 9)).alloc (.cells #[.string ⟨#[97, 110, 110]⟩, .string ⟨#[101, 118, 101]⟩] 9)) (.cells #[.slice none 0 0, .slice (some ⟨w.heap.size + 1, 0, none⟩) 1 1, .slice (some ⟨w.heap.size + 1 + 1, 0, none⟩) 2 2] 56) (w.heap.size + 1 + 1 + 1) (by simp)
  have hk1 : All w ((((w.alloc (.cells #[.slice none 0 0, .slice none 0 0, .slice none 0 0, .slice none 0 0] 85)).alloc (.cells #[.string ⟨#[101, 118, 101]⟩] 9)).alloc (.cells #[.string ⟨#[97, 110, 110]⟩, .string ⟨#[101, 118, 101]⟩] 9)).alloc (.cells #[.slice none 0 0, .slice (some ⟨w.heap.size + 1, 0, none⟩) 1 1, .slice (some ⟨w.heap.size + 1 + 1, 0, none⟩) 2 2] 56)) := (((Kept.alloc _ _ _).then_alloc _).then_alloc _).then_alloc _
  have hw1s : ((((w.alloc (.cells #[.slice none 0 0, .slice none 0 0, .slice none 0 0, .slice none 0 0] 85)).alloc (.cells #[.string ⟨#[101, 118, 101]⟩] 9)).alloc (.cells #[.string ⟨#[97, 110, 110]⟩, .string ⟨#[101, 118, 101]⟩] 9)).alloc (.cells #[.slice none 0 0, .slice (some ⟨w.heap.size + 1, 0, none⟩) 1 1, .slice (some ⟨w.heap.size + 1 + 1, 0, none⟩) 2 2] 56)).heap.size = w.heap.size + 4 := by simp
  have HW1 := Lib.hid hw1s
  have hs1 := hs.keep hk1
  clear hs hw1s
  generalize (((w.alloc (.cells #[.slice none 0 0, .slice none 0 0, .slice none 0 0, .slice none 0 0] 85)).alloc (.cells #[.string ⟨#[101, 118, 101]⟩] 9)).alloc (.cells #[.string ⟨#[97, 110, 110]⟩, .string ⟨#[101, 118, 101]⟩] 9)).alloc (.cells #[.slice none 0 0, .slice (some ⟨w.heap.size + 1, 0, none⟩) 1 1, .slice (some ⟨w.heap.size + 1 + 1, 0, none⟩) 2 2] 56) = w1 at *
  refine (next_any σ n 3 _ hs1 (by omega) (by omega) (by omega)).mono ?_
  rintro e w2 ⟨v, n2, rfl, ⟨r, rfl, hr1, hr2⟩, hn1, hn2, hs2, hb2⟩
  obtain ⟨i, rfl⟩ := Int.eq_ofNat_of_zero_le hr1
  have hi3 : i < 3 := by omega
  have hw2 : But σ.b w w2 := (Kept.all hk1).trans hb2
  have hsz2 := hb2.size
  have k0 := hb2.heap g0 (by omega)
  have k1 := hb2.heap g1 (by omega)
  have k2 := hb2.heap g2 (by omega)
  have k3 := hb2.heap g3 (by omega)
  obtain ⟨a2, l2, c2, hs, hcv, hacc2, hl2, hl22⟩ : ∃ a2 l2 c2 hs, w2.cell? ⟨w.heap.size + 1 + 1 + 1, i, none⟩ = some (.slice a2 l2 c2) ∧ Acc RStr 1 9 (fun _ => False) w.heap.size w2 (.slice a2 l2 c2) hs ∧ l2 = hs.length ∧ hs.length ≤ 2 := by
    have h3 : i = 0 ∨ i = 1 ∨ i = 2 := by omega
    rcases h3 with rfl | rfl | rfl
    · exact ⟨none, 0, 0, [], cell_at (i := 0) k3 rfl, Acc.nil _ _ _ _ _ _, rfl, by simp⟩
    · exact ⟨some ⟨w.heap.size + 1, 0, none⟩, 1, 1, [⟨#[101, 118, 101]⟩], cell_at (i := 1) k3 rfl, Acc.strLit (ss := [⟨#[101, 118, 101]⟩]) k1 rfl (by omega) (by simp) (by simp) (by decide), rfl, by simp⟩
    · exact ⟨some ⟨w.heap.size + 1 + 1, 0, none⟩, 2, 2, [⟨#[97, 110, 110]⟩, ⟨#[101, 118, 101]⟩], cell_at (i := 2) k3 rfl, Acc.strLit (ss := [⟨#[97, 110, 110]⟩, ⟨#[101, 118, 101]⟩]) k2 rfl (by omega) (by simp) (by simp) (by decide), rfl, by simp⟩
  have HL2 := Lib.hid hl2
  clear hl2 g0 g1 g2 g3 k1 k2 k3 hs1 hb2 hk1 hr1 hr2
  have hbb := heap_at w2 (.cells #[.slice none 0 0, .slice none 0 0, .slice a2 l2 c2, .slice none 0 0] 85) _ rfl
  have k0' := heap_old (.cells #[.slice none 0 0, .slice none 0 0, .slice a2 l2 c2, .slice none 0 0] 85) k0
  have hs3 := hs2.keep (Kept.alloc (fun _ => True) w2 (.cells #[.slice none 0 0, .slice none 0 0, .slice a2 l2 c2, .slice none 0 0] 85))
  have hw3 := hw2.then_alloc (.cells #[.slice none 0 0, .slice none 0 0, .slice a2 l2 c2, .slice none 0 0] 85)
  have hacc3 := hacc2.keepAll RStr.ok (Kept.alloc (fun _ => True) w2 (.cells #[.slice none 0 0, .slice none 0 0, .slice a2 l2 c2, .slice none 0 0] 85))
  have hsz3 : (w2.alloc (.cells #[.slice none 0 0, .slice none 0 0, .slice a2 l2 c2, .slice none 0 0] 85)).heap.size = w2.heap.size + 1 := by simp
  obtain ⟨bb, hbbe⟩ : ∃ b, b = w2.heap.size := ⟨_, rfl⟩
  obtain ⟨rb, hrbe⟩ : ∃ b, b = w.heap.size := ⟨_, rfl⟩
  have Hbb := Lib.hid hbbe
  have Hrb := Lib.hid hrbe
  have HW1o := HW1.out
  have hbb1 : w.heap.size + 4 ≤ bb := by omega
  have hbb2 : bb < (w2.alloc (.cells #[.slice none 0 0, .slice none 0 0, .slice a2 l2 c2, .slice none 0 0] 85)).heap.size := by omega
  have hrb1 : rb < bb := by omega
  have hσr : σ.b < rb := by omega
  have HNew := Lib.hid (show w.heap.size ≤ rb by omega)
  rw [← hbbe] at hbb
  rw [← hrbe] at k0'
  clear hbbe hrbe hs2 hw2 hacc2 k0 hsz3 hsz2 HW1o HW1
  have HSZ3 := Lib.hid (show w2.heap.size + 1 = (w2.alloc (.cells #[.slice none 0 0, .slice none 0 0, .slice a2 l2 c2, .slice none 0 0] 85)).heap.size by simp)
  go_wp2_with fail
  simp only [HSZ3.out]
  simp only [← Hbb.out, ← Hrb.out]
  clear HSZ3
  clear hcv Hrb
  generalize w2.alloc (.cells #[.slice none 0 0, .slice none 0 0, .slice a2 l2 c2, .slice none 0 0] 85) = w3 at *
  have hlt3 := hs3.lt
  refine (range_any σ n2 0 2 _ (hs3.keep (by repeat (first | exact Kept.refl _ _ | refine Kept.then_drew ?_ | refine Kept.then_drewN ?_ _ | refine Kept.then_alloc ?_ _))) (by omega) (by omega) (by omega) (by omega)).mono ?_
  rintro e w4 ⟨v, n4, rfl, ⟨r4, rfl, hr1, hr2⟩, hn3, hn4, hs4, hb4⟩
  obtain ⟨M1, rfl⟩ := Int.eq_ofNat_of_zero_le hr1
  have hM1 : M1 ≤ 2 := by omega
  have hA := hb4.heap (heap_old (.cells #[.string ⟨#[97, 110, 110]⟩, .string ⟨#[98, 111, 98]⟩, .string ⟨#[99, 105, 100]⟩] 9) (heap_at w3 (.cells #[.string ⟨#[112, 97]⟩, .string ⟨#[112, 98]⟩] 9) _ rfl)) (by omega)
  have hP := hb4.heap (heap_at (w3.alloc (.cells #[.string ⟨#[112, 97]⟩, .string ⟨#[112, 98]⟩] 9)) (.cells #[.string ⟨#[97, 110, 110]⟩, .string ⟨#[98, 111, 98]⟩, .string ⟨#[99, 105, 100]⟩] 9) (w3.heap.size + 1) (by simp)) (by omega)
  have hb34 : But σ.b w3 w4 := (Kept.all ((by repeat (first | exact Kept.refl _ _ | refine Kept.then_drew ?_ | refine Kept.then_drewN ?_ _ | refine Kept.then_alloc ?_ _)) : All w3 _)).trans hb4
  have HN4 := Lib.hid (show w.heap.size ≤ w4.heap.size from by have := hb34.size; omega)
  clear hb4 hr1 hr2
  go_wp2_with fail
  refine (pairs10_any σ n4 _ 2 _ [⟨#[112, 97]⟩, ⟨#[112, 98]⟩] _ 3 _ [⟨#[97, 110, 110]⟩, ⟨#[98, 111, 98]⟩, ⟨#[99, 105, 100]⟩] M1 _ hs4 (by omega) (Sl.lit_strs _ hA rfl (by omega)) (Sl.lit_strs _ hP rfl (by omega)) (by omega) (by omega) (by omega) (by omega) (by omega)).mono ?_
  rintro e w5 ⟨v1, n5, rfl, ⟨bs, hbl, haccb⟩, hn5, hn6, hs5, hb5⟩
  obtain ⟨a1, c1, rfl, -⟩ := haccb.form
  obtain ⟨l1, hl1⟩ : ∃ l, l = bs.length := ⟨_, rfl⟩
  rw [← hl1] at haccb ⊢
  have HL1 := Lib.hid hl1
  have hb35 := hb34.trans hb5
  have hw5 := hw3.trans hb35
  have hacc5 := hacc3.keep RStr.ok hb35 (fun _ h => h.elim) (fun k hk => by have := (hacc3.lt k hk).1; omega)
  have hbb5 := hb35.heap hbb (by omega)
  have hrb5 := hb35.heap k0' (by omega)
  have hsz5 := hb35.size
  have hsz34 := hb34.size
  have hv1 := Lib.hid (fun k hk => (haccb.lt k hk).1)
  have hv2 := Lib.hid (fun k hk => (hacc3.lt k hk).1)
  have hne2 := hacc5.notType hbb5 (by decide)
  clear hl1 hA hP hs3 hs4 hb34 hb5 hb35 hw3 hacc3 hbb k0'
  have e1 := cell_at (i := 1) hbb5 rfl
  have z1 := frozen_at (i := 1) hbb5
  have hbb6 := heap_setCell_at w5 bb 1 (.slice a1 l1 c1) _ _ _ hbb5
  have hrb6 := (Kept.setCell (F := fun k => k ≠ bb) w5 ⟨bb, 1, none⟩ (.slice a1 l1 c1) (by simp)).heap hrb5 (by omega)
  have hs6 := hs5.set ⟨bb, 1, none⟩ (.slice a1 l1 c1) (by dsimp only; omega)
  have hw6 := hw5.then_setNew ⟨bb, 1, none⟩ (.slice a1 l1 c1) (by dsimp only; omega)
  have haccb6 := haccb.keep RPair.ok (Kept.setCell (F := fun k => k ≠ bb) w5 ⟨bb, 1, none⟩ (.slice a1 l1 c1) (by simp)) (fun _ h => h.elim) (fun k hk => by have := hv1.out k hk; omega)
  have hacc6 := hacc5.keep RStr.ok (Kept.setCell (F := fun k => k ≠ bb) w5 ⟨bb, 1, none⟩ (.slice a1 l1 c1) (by simp)) (fun _ h => h.elim) hne2
  simp only [List.setIfInBounds_toArray, List.set_cons_succ, List.set_cons_zero] at hbb6
  have HS6 := Lib.hid (show w5.heap.size = (w5.setCell ⟨bb, 1, none⟩ (.slice a1 l1 c1)).heap.size by simp [World.setCell])
  clear hs5 hw5 haccb hacc5 hbb5 hrb5 hne2
  go_wp2_with fail
  simp only [HS6.out]
  generalize w5.setCell ⟨bb, 1, none⟩ (.slice a1 l1 c1) = w6 at *
  clear e1 z1
  have HS6o := HS6.out
  have hsz6 : w3.heap.size ≤ w6.heap.size := by omega
  clear HS6 HS6o hsz5
  refine (range_any σ n5 0 6 _ (hs6.keep (by repeat (first | exact Kept.refl _ _ | refine Kept.then_drew ?_ | refine Kept.then_drewN ?_ _ | refine Kept.then_alloc ?_ _))) (by omega) (by omega) (by omega) (by omega)).mono ?_
  rintro e w7 ⟨v, n7, rfl, ⟨r7, rfl, hr1, hr2⟩, hn7, hn8, hs7, hb7⟩
  obtain ⟨M2, rfl⟩ := Int.eq_ofNat_of_zero_le hr1
  have hM2 : M2 ≤ 6 := by omega
  have hA := hb7.heap (heap_old (.cells #[.string ⟨#[98, 111, 98]⟩, .string ⟨#[99, 105, 100]⟩, .string ⟨#[100, 101, 101]⟩] 9) (heap_at w6 (.cells #[.string ⟨#[112, 97]⟩, .string ⟨#[112, 98]⟩, .string ⟨#[112, 99]⟩] 9) _ rfl)) (by omega)
  have hP := hb7.heap (heap_at (w6.alloc (.cells #[.string ⟨#[112, 97]⟩, .string ⟨#[112, 98]⟩, .string ⟨#[112, 99]⟩] 9)) (.cells #[.string ⟨#[98, 111, 98]⟩, .string ⟨#[99, 105, 100]⟩, .string ⟨#[100, 101, 101]⟩] 9) (w6.heap.size + 1) (by simp)) (by omega)
  have hb67 : But σ.b w6 w7 := (Kept.all ((by repeat (first | exact Kept.refl _ _ | refine Kept.then_drew ?_ | refine Kept.then_drewN ?_ _ | refine Kept.then_alloc ?_ _)) : All w6 _)).trans hb7
  clear hb7 hr1 hr2
  go_wp2_with fail
  refine (pairs10_any σ n7 _ 3 _ [⟨#[112, 97]⟩, ⟨#[112, 98]⟩, ⟨#[112, 99]⟩] _ 3 _ [⟨#[98, 111, 98]⟩, ⟨#[99, 105, 100]⟩, ⟨#[100, 101, 101]⟩] M2 _ hs7 (by omega) (Sl.lit_strs _ hA rfl (by omega)) (Sl.lit_strs _ hP rfl (by omega)) (by omega) (by omega) (by omega) (by omega) (by omega)).mono ?_
  rintro e w8 ⟨vq, n8, rfl, ⟨qs, hql, haccq⟩, hn9, hn10, hs8, hb8⟩
  obtain ⟨aq, cq, rfl, -⟩ := haccq.form
  obtain ⟨lq, hlq⟩ : ∃ l, l = qs.length := ⟨_, rfl⟩
  rw [← hlq] at haccq hql ⊢
  have hb68 := hb67.trans hb8
  have hw8 := hw6.trans hb68
  have hacc8 := hacc6.keep RStr.ok hb68 (fun _ h => h.elim) (fun k hk => by have := (hacc6.lt k hk).1; omega)
  have haccb8 := haccb6.keep RPair.ok hb68 (fun _ h => h.elim) (fun k hk => by have := hv1.out k hk; omega)
  have hbb8 := hb68.heap hbb6 (by omega)
  have hrb8 := hb68.heap hrb6 (by omega)
  have hsz8 := hb68.size
  have hsz67 := hb67.size
  have hb3z : bb < w3.heap.size := hbb2
  obtain ⟨aq', cq', heq, hslq⟩ := haccq.sl RPair.ok (by decide) (G := fun k => k ≠ bb) (fun _ h => h.elim) (fun k hk => by have := (haccq.lt k hk).1; omega)
  rw [← hlq] at heq hslq
  injection heq with q1 q2 q3
  subst q1 q3
  clear q2 haccq hlq
  have hne2r := hacc8.notType hrb8 (by decide)
  have HV1b := Lib.hid (show ∀ k, (Value.slice a1 l1 c1).ownBlock = some k → k ≠ bb ∧ k ≠ rb ∧ σ.b < k ∧ k < w8.heap.size from fun k hk => by have h1 := hv1.out k hk; have h2 := (haccb8.lt k hk).2; exact ⟨by omega, by omega, by omega, h2⟩)
  have HV2b := Lib.hid (show ∀ k, (Value.slice a2 l2 c2).ownBlock = some k → k ≠ bb ∧ k ≠ rb ∧ σ.b < k ∧ k < w8.heap.size from fun k hk => ⟨hacc8.notType hbb8 (by decide) k hk, hne2r k hk, by have := (hacc8.lt k hk).1; omega, (hacc8.lt k hk).2⟩)
  clear hne2r
  have hne2 := hacc8.notType hbb8 (by decide)
  have HB8 := Lib.hid hbb8
  have HBs := Lib.hid (fun (wx : World) (k : But bb w8 wx) => haccb8.keep RPair.ok k (fun _ h => h.elim) (fun j hj => by have := hv1.out j hj; omega))
  have HHs := Lib.hid (fun (wx : World) (k : But bb w8 wx) => hacc8.keep RStr.ok k (fun _ h => h.elim) hne2)
  have HRB := Lib.hid (fun (wx : World) (k : But bb w8 wx) => k.heap hrb8 (by omega))
  have hbb9 : bb < w8.heap.size := by omega
  have hbl20 : l1 ≤ 20 := by have := HL1.out; omega
  have hnn : n ≤ n8 ∧ n8 ≤ n + 90 := by omega
  clear hn5 hn6 hn7 hn8 hn9 hn10
  clear hA hP hs6 hs7 hb67 hb8 hb68 hw6 hacc6 haccb6 hbb6 hrb6 hbb8 hrb8 hne2 hacc8 haccb8 hv1 hv2 hsz34 hsz6 hsz67 hn1 hn2 hn3 hn4 hi3 hM1 hM2
  go_wp2_with fail
  go_loopw [31] (fun i wr => ∃ k : Nat, k ≤ lq ∧ i = .int .i64 k ∧ ∃ (v0 : Value) (ps : List Pair2), ps.length ≤ k ∧ Acc RPair 2 95 (fun _ => False) w8.heap.size wr v0 ps ∧ wr.heap[bb]? = some (.cells #[v0, .slice a1 l1 c1, .slice a2 l2 c2, .slice none 0 0] 85 (0, 0)) ∧ But bb w8 wr) (fun i _ => lq - (intOf i).toNat)
  case atStart => exact ⟨0, Nat.zero_le _, rfl, .slice none 0 0, [], Nat.le_refl _, Acc.nil _ _ _ _ _ _, HB8.out, Kept.refl _ _⟩
  case round =>
    obtain ⟨k, hk, rfl, v0, ps, hpl, hacc0, hbb, hbut⟩ := hrel
    obtain ⟨wo, rfl⟩ : ∃ wo : World, wo = wr := ⟨_, rfl⟩
    obtain ⟨a0, c0, rfl, -⟩ := hacc0.form
    obtain ⟨l0, hl0⟩ : ∃ l, l = ps.length := ⟨_, rfl⟩
    have HL0 := Lib.hid hl0
    have hl0k : l0 ≤ k := by omega
    rw [← hl0] at hbb
    have hsz := hbut.size
    have hacc0' := hacc0
    rw [← hl0] at hacc0'
    clear hl0 hacc0
    by_cases hlt2 : k < lq
    · obtain ⟨b, off, y, ha, -, p0, p1, -, -, -⟩ := (hslq.keep RPair.ok hbut).atPair hlt2
      subst ha
      have hblk := heap_at wo (.cells #[.string y.paper, .string y.person] 95) _ rfl
      have q0 := cell_at (i := 0) hblk rfl
      have q1 := cell_at (i := 1) hblk rfl
      have hka : All wo (wo.alloc (.cells #[.string y.paper, .string y.person] 95)) := Kept.alloc _ _ _
      have hbba := hka.heap hbb trivial
      have e1 := cell_at (i := 1) hbba rfl
      have hbuta := hbut.trans (Kept.all hka)
      have hacca := hacc0'.keepAll RPair.ok hka
      obtain ⟨tb, htb⟩ : ∃ b, b = wo.heap.size := ⟨_, rfl⟩
      have Htb := Lib.hid htb
      have htb1 : w8.heap.size ≤ tb := by omega
      rw [← htb] at q0 q1
      clear hblk htb hbb hacc0'
      obtain ⟨asl, csl, hveq, hsl1⟩ := (HBs.out _ hbuta).sl RPair.ok (by decide) (G := fun _ => True) (fun _ h => h.elim) (fun _ _ => trivial)
      rw [← HL1.out] at hveq hsl1
      injection hveq with h1 h2 h3
      subst h1 h3
      clear h2
      go_wp2_with fail
      simp only [← Htb.out]
      generalize wo.alloc (.cells #[.string y.paper, .string y.person] 95) = wa at *
      refine (containsP_any a1 l1 c1 bs y.paper y.person _ hsl1 (by omega)).mono ?_
      rintro e wb ⟨rfl, hwb⟩
      have hbbb := hwb.heap hbba trivial
      have hbutb := hbuta.trans (Kept.all hwb)
      have haccb := hacca.keepAll RPair.ok hwb
      replace q0 := hwb.cell q0 trivial
      replace q1 := hwb.cell q1 trivial
      clear hsl1 hbba hbuta hacca e1 hka hwb
      obtain ⟨cb, hcb⟩ : ∃ c, c = inP bs y.paper y.person := ⟨_, rfl⟩
      rw [← hcb]
      clear hcb
      cases cb with
      | true =>
        go_wp2_with fail
        go_roundw
        case rel => exact ⟨k + 1, by omega, by go_num, _, ps, by omega, haccb, hbbb, hbutb⟩
        case measure => simp [intOf]; omega
      | false =>
        have e0 := cell_at (i := 0) hbbb rfl
        have hlb : ps.length + 1 ≤ 1000000000 := by have := HL0.out; omega
        have hsz9 := hbutb.size
        have hkr := Lib.hid (fun k (hk : (Value.slice a0 l0 c0).ownBlock = some k) => (haccb.lt k hk).1)
        have hy : RPair (fun k => False ∧ (Value.slice a0 l0 c0).ownBlock ≠ some k) (wb.alloc (.cells #[.string y.paper, .string y.person] 95)) [.string y.paper, .string y.person] y := rfl
        go_wp2_with (at_builtin; refine wp_append1 RPair.ok _ rfl _ _ 82 rfl w8.heap.size 95 (.agg #[.string ⟨#[]⟩, .string ⟨#[]⟩]) 2 32 Tryz.underlying82 (by kernel_rfl) rfl (by decide) (fun _ => False) _ ps rfl (haccb.keepAll RPair.ok (Kept.alloc _ _ _)) ⟨_, 0, none⟩ 1 [.string y.paper, .string y.person] rfl rfl (World.news_of_block (cs := #[.string y.paper, .string y.person]) (heap_alloc_new wb _)) (by simp [Value.oneCell']) y hy hlb (by decide) (by simp; omega) ?_)
        intro p' c' w9 hacc9 hg9 _
        have hk9 : Kept (fun k => (Value.slice a0 l0 c0).ownBlock ≠ some k) wb w9 := Kept.grown (Kept.alloc _ _ _) hg9 (fun k hk => Or.inr (fun h => h hk))
        have hbut9 : But bb w8 w9 := hbutb.trans2 hk9 (fun i hi _ e => by have := hkr.out i e; omega)
        have hbb9' := hk9.heap hbbb (fun e => by have := hkr.out bb e; omega)
        have f0 := cell_at (i := 0) hbb9' rfl
        have z0 := frozen_at (i := 0) hbb9'
        have hbb10 := heap_setCell_at w9 bb 0 (.slice p' (ps.length + 1) c') _ _ _ hbb9'
        simp only [List.setIfInBounds_toArray, List.set_cons_zero] at hbb10
        have hacc10 := Lib.hid (hacc9.keep RPair.ok (Kept.setCell (F := fun k => k ≠ bb) w9 ⟨bb, 0, none⟩ (.slice p' (ps.length + 1) c') (by simp)) (fun _ h => h.elim) (fun k hk => by have := (hacc9.lt k hk).1; omega))
        have hbut10 := Lib.hid (hbut9.then_setCell ⟨bb, 0, none⟩ (.slice p' (ps.length + 1) c') (by simp))
        have HBB10 := Lib.hid hbb10
        clear hg9 haccb hbbb hbb9' hbb10 hk9 hacc9 hbut9 hbutb q0 q1 e0 hy
        go_wp2_with fail
        go_roundw
        case rel => exact ⟨k + 1, by omega, by go_num, _, ps ++ [y], by simp; have := HL0.out; omega, hacc10.out, HBB10.out, hbut10.out⟩
        case measure => simp [intOf]; omega
    · have hdq : decide ((k : Int) < (lq : Int)) = false := by simp; omega
      have hm0 := MapO.made Tryz.prog 9 wo
      have hkm : All wo (wo.alloc (.map #[] 0)) := Kept.alloc _ _ _
      have hbbm := hkm.heap hbb trivial
      have hbutm := hbut.trans (Kept.all hkm)
      have haccm := hacc0'.keepAll RPair.ok hkm
      have hlt8 := hs8.lt
      have hsm := (hs8.kept hbutm (fun k hk e => by omega))
      have HV0b := Lib.hid (show ∀ k, (Value.slice a0 l0 c0).ownBlock = some k → k ≠ bb ∧ k ≠ rb ∧ σ.b < k ∧ w8.heap.size ≤ k ∧ k < wo.heap.size from fun k hk => by have h1 := hacc0'.lt k hk; exact ⟨by omega, by omega, by omega, h1.1, h1.2⟩)
      obtain ⟨mb, hmb⟩ : ∃ b, b = wo.heap.size := ⟨_, rfl⟩
      have Hmb := Lib.hid hmb
      rw [← hmb] at hm0 HV0b
      have hmb8 : w8.heap.size ≤ mb := by omega
      clear hmb
      have HMS := Lib.hid (show mb < (wo.alloc (.map #[] 0)).heap.size from by have := Hmb.out; simp; omega)
      have hnn1 := hnn.1
      have hnn2 := hnn.2
      have hp20 : ps.length ≤ 20 := by omega
      clear hbut hbb hacc0' hkm hs8 hslq
      go_wp2_with fail
      simp only [← Hmb.out]
      generalize wo.alloc (.map #[] 0) = wm at *
      clear hmm
      refine (range_any σ n8 0 6 _ hsm (by omega) (by omega) (by omega) (by omega)).mono ?_
      rintro e w11 ⟨v, n11, rfl, ⟨r11, rfl, hr1, hr2⟩, hn11, hn12, hs11, hb11⟩
      obtain ⟨M3, rfl⟩ := Int.eq_ofNat_of_zero_le hr1
      have hM3 : M3 ≤ 6 := by omega
      have hm11 := hb11.heap hbbm (by omega)
      have hmap11 := hm0.keep hb11 (show mb ≠ σ.b by omega)
      have hsz11 := hb11.size
      have hms := HMS.out
      have hszm := hbutm.size
      have HP11 := Lib.hid (haccm.keep RPair.ok hb11 (fun _ h => h.elim) (fun k hk => by have := HV0b.out k hk; omega))
      have HB11 := Lib.hid ((HBs.out _ hbutm).keep RPair.ok hb11 (fun _ h => h.elim) (fun k hk => by have := HV1b.out k hk; omega))
      have HH11 := Lib.hid ((HHs.out _ hbutm).keep RStr.ok hb11 (fun _ h => h.elim) (fun k hk => by have := HV2b.out k hk; omega))
      have HR11 := Lib.hid (hb11.heap (HRB.out _ hbutm) (by omega))
      have HW11 := Lib.hid (show But σ.b w w11 from (hw8.trans2 hbutm (fun i hi _ e => by have := HNew.out; omega)).trans hb11)
      have HBB11 := Lib.hid hm11
      have HMAP := Lib.hid hmap11
      have HST := Lib.hid hs11
      have hmb11 : mb < w11.heap.size := by omega
      have hbb11 : bb < w11.heap.size := by omega
      have hσ11 := hs11.lt
      have hσm : σ.b < mb := by omega
      have hbm : bb < mb := by omega
      have hσb : σ.b < bb := by omega
      clear hr1 hr2 hm0 hm11 hmap11 hs11 hb11 hbbm hsm haccm hms HMS hbutm hsz11 hszm HBs HHs HRB
      go_wp2_with fail
      go_loopw [6, 50] (fun z i wr => ∃ k : Nat, k ≤ M3 ∧ i = .int .i64 k ∧ (∃ zz : Int, z = .int .i64 zz) ∧ ∃ (v3 : Value) (ts : List Turn3) (n' mm : Nat) (f : ByteArray → Bool), ts.length ≤ k ∧ Acc RTurn 3 152 (fun _ => False) w11.heap.size wr v3 ts ∧ wr.heap[bb]? = some (.cells #[.slice a0 l0 c0, .slice a1 l1 c1, .slice a2 l2 c2, v3] 85 (0, 0)) ∧ MapO Tryz.prog 9 wr mb mm f ∧ mm ≤ k ∧ Str σ wr n' ∧ n11 ≤ n' ∧ n' ≤ n11 + 2 * k ∧ Kept (fun k => k ≠ bb ∧ k ≠ mb ∧ k ≠ σ.b) w11 wr) (fun _ i _ => M3 - (intOf i).toNat)
      case atStart => exact ⟨0, Nat.zero_le _, rfl, ⟨0, rfl⟩, .slice none 0 0, [], n11, 0, _, Nat.le_refl _, Acc.nil _ _ _ _ _ _, HBB11.out, HMAP.out, Nat.le_refl _, HST.out, Nat.le_refl _, by omega, Kept.refl _ _⟩
      case round =>
        obtain ⟨k, hk, rfl, ⟨zz, rfl⟩, v3, ts, n', mm, f, htl, hacc3, hbb, hmap, hmk, hst, hn1, hn2, hKw⟩ := hrel
        obtain ⟨wo, rfl⟩ : ∃ wo : World, wo = wr := ⟨_, rfl⟩
        obtain ⟨a3, c3, rfl, -⟩ := hacc3.form
        obtain ⟨l3, hl3⟩ : ∃ l, l = ts.length := ⟨_, rfl⟩
        have HL3 := Lib.hid hl3
        rw [← hl3] at hbb hacc3
        have hl3k : l3 ≤ k := by omega
        clear hl3
        have hsz := hKw.size
        have HKR := Lib.hid (fun k (hk : (Value.slice a3 l3 c3).ownBlock = some k) => (hacc3.lt k hk).1)
        have hlto := hst.lt
        by_cases hlt2 : k < M3
        · have hla : wo.heap.size ≠ σ.b := by omega
          go_wp2_with fail
          refine (pick_any σ n' _ 4 4 [0, 5, 10, 50] _ (hst.keep (Kept.alloc _ _ _)) (by omega) (Sl.lit_ints [0, 5, 10, 50] (heap_at _ _ _ rfl) rfl hla) (by simp) (by simp)).mono ?_
          rintro e wb ⟨v, nb, rfl, ⟨rr, rfl, -⟩, hnb1, hnb2, hsb, hbb_⟩
          have hbw : But σ.b wo wb := (Kept.alloc _ _ _).trans hbb_
          have hltb := hsb.lt
          have hszb := hbw.size
          clear hbb_
          go_wp2_with fail
          refine (some10_any σ nb _ 4 4 [⟨#[112, 97]⟩, ⟨#[112, 97]⟩, ⟨#[112, 98]⟩, ⟨#[112, 99]⟩] _ (hsb.keep (Kept.alloc _ _ _)) (by omega) (Sl.lit_strs [⟨#[112, 97]⟩, ⟨#[112, 97]⟩, ⟨#[112, 98]⟩, ⟨#[112, 99]⟩] (heap_at _ _ _ rfl) rfl (by omega)) (by simp) (by simp)).mono ?_
          rintro e wc ⟨v, nc, rfl, ⟨y, rfl, -, hyz⟩, hnc1, hnc2, hsc, hbc⟩
          have hbwc : But σ.b wo wc := hbw.trans ((Kept.alloc _ _ _).trans hbc)
          have hbbc := hbwc.heap hbb (by omega)
          have hmapc := hmap.keep hbwc (show mb ≠ σ.b by omega)
          have haccc := hacc3.keep RTurn.ok hbwc (fun _ h => h.elim) (fun j hj => by have := HKR.out j hj; omega)
          have hKc : Kept (fun k => k ≠ bb ∧ k ≠ mb ∧ k ≠ σ.b) w11 wc := hKw.trans (hbwc.mono (fun k hk => hk.2.2))
          clear hbc hbw hsb hst hbb hmap hacc3 hKw hbwc hltb hlto
          have l1 := hmapc.look Tryz.underlying9 Tryz.underlying165 (Tryz.zeroValue4 wc) y hyz
          obtain ⟨wd, hput, hmapd, hbd⟩ := hmapc.put Tryz.underlying9 Tryz.underlying165 (by omega) y hyz (!f y)
          obtain ⟨ob, hob⟩ : ∃ ob, ob = !f y := ⟨_, rfl⟩
          have l2 : (Instr.lookup 165 (.map (some mb)) (.string y) false).run Tryz.prog wd = .ok (.bool ob) wd := by have := hmapd.look Tryz.underlying9 Tryz.underlying165 (Tryz.zeroValue4 wd) y hyz; rw [hob]; simpa using this
          rw [← hob] at hput
          obtain ⟨fy, hfy⟩ : ∃ fy, fy = f y := ⟨_, rfl⟩
          rw [← hfy] at l1 hob
          have HOB := Lib.hid hob.symm
          have hnot : (!fy) = ob := hob.symm
          have hbbd := hbd.heap hbbc (by omega)
          have haccd := haccc.keep RTurn.ok hbd (fun _ h => h.elim) (fun j hj => by have := HKR.out j hj; omega)
          have hsd := hsc.kept hbd (fun k hk e => by omega)
          have hKd : Kept (fun k => k ≠ bb ∧ k ≠ mb ∧ k ≠ σ.b) w11 wd := hKc.trans (hbd.mono (fun k hk => hk.2.1))
          have hszd := hKd.size
          have hltd := hsd.lt
          have e3 := cell_at (i := 3) hbbd rfl
          have hlb : ts.length + 1 ≤ 1000000000 := by have := HL3.out; omega
          clear hob hfy hbbc haccc hsc hKc hbd hmapc
          obtain ⟨z9, hz9⟩ : ∃ z : Int, z = IntKind.i64.wrap (zz + rr) := ⟨_, rfl⟩
          clear hz9 z9
          go_wp2_with (at_builtin; refine wp_append1 RTurn.ok _ rfl _ _ 83 rfl w11.heap.size 152 (.agg #[.int .i64 0, .string ⟨#[]⟩, .bool false]) 3 32 Tryz.underlying83 (by kernel_rfl) rfl (by decide) (fun _ => False) _ ts rfl (haccd.keepAll RTurn.ok (Kept.alloc _ _ _)) ⟨_, 0, none⟩ 1 [.int .i64 (wrap64 (zz + rr)), .string y, .bool ob] rfl rfl (World.news_of_block (cs := #[.int .i64 (wrap64 (zz + rr)), .string y, .bool ob]) (heap_alloc_new wd _)) (by simp [Value.oneCell']) ⟨wrap64 (zz + rr), y, ob⟩ ⟨rfl, hyz⟩ hlb (by decide) (by simp; omega) ?_)
          intro p' c' w9 hacc9 hg9 _
          have hk9 : Kept (fun k => (Value.slice a3 l3 c3).ownBlock ≠ some k) wd w9 := Kept.grown (Kept.alloc _ _ _) hg9 (fun k hk => Or.inr (fun h => h hk))
          have hbb9' := hk9.heap hbbd (fun e => by have := HKR.out bb e; omega)
          have hs9 := hsd.kept hk9 (fun k hk e => by have := HKR.out k e; omega)
          have hmap9 := hmapd.keep hk9 (fun e => by have := HKR.out mb e; omega)
          have hK9 := hKd.trans2 hk9 (fun i hi _ e => by have := HKR.out i e; omega)
          have f3 := cell_at (i := 3) hbb9' rfl
          have z3 := frozen_at (i := 3) hbb9'
          have hbb10 := heap_setCell_at w9 bb 3 (.slice p' (ts.length + 1) c') _ _ _ hbb9'
          simp only [List.setIfInBounds_toArray, List.set_cons_succ, List.set_cons_zero] at hbb10
          have hacc10 := Lib.hid (hacc9.keep RTurn.ok (Kept.setCell (F := fun k => k ≠ bb) w9 ⟨bb, 3, none⟩ (.slice p' (ts.length + 1) c') (by simp)) (fun _ h => h.elim) (fun k hk => by have := (hacc9.lt k hk).1; omega))
          have hs10 := Lib.hid (hs9.set ⟨bb, 3, none⟩ (.slice p' (ts.length + 1) c') hσb)
          have hmap10 := Lib.hid (hmap9.keep (Kept.setCell (F := fun k => k ≠ bb) w9 ⟨bb, 3, none⟩ (.slice p' (ts.length + 1) c') (by simp)) (show mb ≠ bb by omega))
          have hK10 := Lib.hid (hK9.then_setCell ⟨bb, 3, none⟩ (.slice p' (ts.length + 1) c') (by simp))
          have HBB10 := Lib.hid hbb10
          clear hg9 haccd hbbd hbb9' hbb10 hk9 hacc9 hs9 hmap9 hK9 hsd hmapd hKd e3 l1 l2 hput
          go_wp2_with fail
          go_roundw
          case rel => exact ⟨k + 1, by omega, by go_num, ⟨_, rfl⟩, _, ts ++ [⟨wrap64 (zz + rr), y, ob⟩], nc, mm + 1, _, by simp; have := HL3.out; omega, hacc10.out, HBB10.out, hmap10.out, by omega, hs10.out, by omega, by omega, hK10.out⟩
          case measure => simp [intOf]; omega
        · have hdk : decide ((k : Int) < (M3 : Int)) = false := by simp; omega
          have hN := HNew.out
          have hrbo := hKw.heap HR11.out ⟨show rb ≠ bb by omega, show rb ≠ mb by omega, show rb ≠ σ.b by omega⟩
          have hke : Kept (fun k => k ≠ rb) wo ((((wo.setCell ⟨rb, 0, none⟩ (.slice a0 l0 c0)).setCell ⟨rb, 1, none⟩ (.slice a1 l1 c1)).setCell ⟨rb, 2, none⟩ (.slice a2 l2 c2)).setCell ⟨rb, 3, none⟩ (.slice a3 l3 c3)) := ((((Kept.refl _ _).then_setCell _ _ (by simp)).then_setCell _ _ (by simp)).then_setCell _ _ (by simp)).then_setCell _ _ (by simp)
          have A0 := Lib.hid (((HP11.out.keep RPair.ok hKw (fun _ h => h.elim) (fun k hk => by have := HV0b.out k hk; exact ⟨by omega, by omega, by omega⟩)).keep RPair.ok hke (fun _ h => h.elim) (fun k hk => by have := HV0b.out k hk; omega)).base (show w.heap.size ≤ w8.heap.size by omega))
          have A1 := Lib.hid (((HB11.out.keep RPair.ok hKw (fun _ h => h.elim) (fun k hk => by have := HV1b.out k hk; exact ⟨by omega, by omega, by omega⟩)).keep RPair.ok hke (fun _ h => h.elim) (fun k hk => by have := HV1b.out k hk; omega)).base HN4.out)
          have A2 := Lib.hid ((HH11.out.keep RStr.ok hKw (fun _ h => h.elim) (fun k hk => by have := HV2b.out k hk; exact ⟨by omega, by omega, by omega⟩)).keep RStr.ok hke (fun _ h => h.elim) (fun k hk => by have := HV2b.out k hk; omega))
          have A3 := Lib.hid ((hacc3.keep RTurn.ok hke (fun _ h => h.elim) (fun k hk => by have := HKR.out k hk; omega)).base (show w.heap.size ≤ w11.heap.size by omega))
          have hdis := Lib.hid (show ∀ k, (Value.slice a0 l0 c0 : Value).ownBlock = some k → (Value.slice a1 l1 c1 : Value).ownBlock ≠ some k from fun k h1 h2 => by have h3 := HV0b.out k h1; have h4 := HV1b.out k h2; omega)
          have hfs := Lib.hid ((((hst.set ⟨rb, 0, none⟩ (.slice a0 l0 c0) hσr).set ⟨rb, 1, none⟩ (.slice a1 l1 c1) hσr).set ⟨rb, 2, none⟩ (.slice a2 l2 c2) hσr).set ⟨rb, 3, none⟩ (.slice a3 l3 c3) hσr)
          have hfw := Lib.hid (((((HW11.out.trans2 hKw (fun i hi hne => ⟨by omega, by omega, hne⟩)).then_setNew ⟨rb, 0, none⟩ (.slice a0 l0 c0) hN).then_setNew ⟨rb, 1, none⟩ (.slice a1 l1 c1) hN).then_setNew ⟨rb, 2, none⟩ (.slice a2 l2 c2) hN).then_setNew ⟨rb, 3, none⟩ (.slice a3 l3 c3) hN)
          have hfin : ((((wo.setCell ⟨rb, 0, none⟩ (.slice a0 l0 c0)).setCell ⟨rb, 1, none⟩ (.slice a1 l1 c1)).setCell ⟨rb, 2, none⟩ (.slice a2 l2 c2)).setCell ⟨rb, 3, none⟩ (.slice a3 l3 c3)).heap[rb]? = some (.cells #[.slice a0 l0 c0, .slice a1 l1 c1, .slice a2 l2 c2, .slice a3 l3 c3] 85 (0, 0)) := by
            have h0 := heap_setCell_at wo rb 0 (.slice a0 l0 c0) _ _ _ hrbo
            have h1 := heap_setCell_at _ rb 1 (.slice a1 l1 c1) _ _ _ h0
            have h2 := heap_setCell_at _ rb 2 (.slice a2 l2 c2) _ _ _ h1
            have h3 := heap_setCell_at _ rb 3 (.slice a3 l3 c3) _ _ _ h2
            simpa using h3
          have e0 := cell_at (i := 0) hbb rfl
          have e1 := cell_at (i := 1) hbb rfl
          have e2 := cell_at (i := 2) hbb rfl
          have e3 := cell_at (i := 3) hbb rfl
          have y0 := cell_at (i := 0) hrbo rfl
          have y1 := cell_at (i := 1) hrbo rfl
          have y2 := cell_at (i := 2) hrbo rfl
          have y3 := cell_at (i := 3) hrbo rfl
          have z0 := frozen_at (i := 0) hrbo
          have z1 := frozen_at (i := 1) hrbo
          have z2 := frozen_at (i := 2) hrbo
          have z3 := frozen_at (i := 3) hrbo
          have q0 := cell_at (i := 0) hfin rfl
          have q1 := cell_at (i := 1) hfin rfl
          have q2 := cell_at (i := 2) hfin rfl
          have q3 := cell_at (i := 3) hfin rfl
          have hl32 : ts.length ≤ 20 := by omega
          clear hke hfin hrbo hbb hacc3 hmap hst hKw
          go_wp2_with fail
          refine bodyPost_ret (v := .agg #[.slice a0 l0 c0, .slice a1 l1 c1, .slice a2 l2 c2, .slice a3 l3 c3]) ?_ rfl ⟨_, n', rfl, ⟨_, _, _, _, ⟨ps, bs, hs, ts⟩, rfl, hp20, hbl, by dsimp only; omega, hl32, A0.out, A1.out, A2.out, A3.out, hdis.out⟩, by omega, by omega, hfs.out, hfw.out⟩
          simp [results, Tryz.results88, go_sem, q0, q1, q2, q3]
end Go.Proofs.YtiecaedgphdfdaaGreatDoor
