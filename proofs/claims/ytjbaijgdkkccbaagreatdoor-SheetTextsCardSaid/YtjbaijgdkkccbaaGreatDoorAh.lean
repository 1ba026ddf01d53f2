/- The generator RightSheet. -/
import Derived.Test.YtjbaijgdkkccbaaGreatDoorZi
import Derived.Test.YtjbaijgdkkccbaaGreatDoorAa
import Derived.Laws.OwnMore
import Derived.Test.YtjbaijgdkkccbaaGreatDoorZf
import Derived.Test.YtjbaijgdkkccbaaGreatDoorZn
namespace Go.Proofs.YtjbaijgdkkccbaaGreatDoor
open Go.RowKit

/-- A literal of elements. -/
theorem Acc.lit {α : Type} {R : Rel α} {sz : Nat} {F : Nat → Prop} {xs : List α} (ok : R.Ok) (T : TypeId) (B : Nat) (w : World) (cells : List Value) (hc : cells.length = xs.length * sz) (hB : B ≤ w.heap.size) (hm : xs.length ≤ maxLen)
    (he : ∀ i (h : i < xs.length), R F w ((cells.drop (i * sz)).take sz) xs[i]) : Acc R sz T F B (w.alloc (.cells cells.toArray T)) (.slice (some ⟨w.heap.size, 0, none⟩) xs.length xs.length) xs := by
  refine ⟨cells, ⟨hc, Or.inr ⟨w.heap.size, xs.length, cells.toArray, rfl, hB, heap_at _ _ _ rfl, Nat.le_refl _, hm, by simpa using hc, by rw [List.take_of_length_le (by simp [hc])]⟩⟩, fun i hi => ?_⟩
  refine ok.mono (fun k hk => ⟨hk.1, fun e => ?_⟩) (ok.keep (Kept.alloc _ _ _) (ok.live (he i hi)))
  have e2 : w.heap.size = k := Option.some.inj e
  omega
/-- A sheet of the call's own. -/
def PSheet (σ : St) (B lo hi : Nat) (v : Value) (w : World) : Prop := ∃ xs : List Qst, lo ≤ xs.length ∧ xs.length ≤ hi ∧ Acc RQst 6 146 (fun k => k ≠ σ.b) B w v xs
theorem PSheet.keep {σ : St} {B lo hi : Nat} {v : Value} {w w' : World} (h : PSheet σ B lo hi v w) (hB : σ.b < B) (k : But σ.b w w') : PSheet σ B lo hi v w' := by
  obtain ⟨xs, h1, h2, h3⟩ := h
  exact ⟨xs, h1, h2, h3.keep RQst.ok k (fun _ h => h) (fun j hj => by have := (h3.lt j hj).1; omega)⟩

set_option maxRecDepth 100000 in
set_option maxHeartbeats 6400000 in
theorem rightSheet_any (σ : St) (n0 : Nat) (w0 : World) (hs0 : Str σ w0 n0) (hn : n0 ≤ 4611686018427380000) :
    Calls Tryz.prog 46 #[.pointer (some ⟨σ.b, 0, none⟩)] w0 (StPost σ n0 30 w0 (PSheet σ w0.heap.size 1 4)) := by
  have hl0 := hs0.lt
  have hw0 : But σ.b w0 w0 := Kept.refl _ _
  go_enter Tryz.func46, Tryz.ntmps46
  go_wp2_with fail
  refine (pick_any σ n0 _ 4 4 [10, 10, 5, 100] _ (hs0.keep (Kept.alloc _ _ _)) (by omega) (Sl.lit_ints _ (heap_at w0 _ _ rfl) rfl (by have := hs0.lt; omega)) (by omega) (by omega)).mono ?_
  rintro e w1 ⟨v, n1, rfl, ⟨z1, rfl, hz1⟩, hA1, hB1, hs1, hb1⟩
  have hw1 := (hw0.then_alloc _).trans hb1
  clear hs0 hb1 hw0
  have hl1 := hs1.lt
  clear hz1
  go_wp2_with fail
  refine (flip_any σ n1 2 _ hs1 (by omega) (by omega) (by omega)).mono ?_
  rintro e w2 ⟨v, n2, rfl, ⟨f1, rfl⟩, hA2, hB2, hs2, hb2⟩
  have hw2 := (hw1).trans hb2
  clear hs1 hb2 hw1
  have hl2 := hs2.lt
  go_wp2_with fail
  refine (pick_any σ n2 _ 3 3 [1, 20, 5000] _ (hs2.keep (Kept.alloc _ _ _)) (by omega) (Sl.lit_ints _ (heap_at w2 _ _ rfl) rfl (by have := hs2.lt; omega)) (by omega) (by omega)).mono ?_
  rintro e w3 ⟨v, n3, rfl, ⟨z2, rfl, hz2⟩, hA3, hB3, hs3, hb3⟩
  have hw3 := (hw2.then_alloc _).trans hb3
  clear hs2 hb3 hw2
  have hl3 := hs3.lt
  clear hz2
  go_wp2_with fail
  refine (flip_any σ n3 2 _ hs3 (by omega) (by omega) (by omega)).mono ?_
  rintro e w4 ⟨v, n4, rfl, ⟨f2, rfl⟩, hA4, hB4, hs4, hb4⟩
  have hw4 := (hw3).trans hb4
  clear hs3 hb4 hw3
  have hl4 := hs4.lt
  go_wp2_with fail
  refine (flip_any σ n4 3 _ (hs4.keep (Kept.alloc _ _ _)) (by omega) (by omega) (by omega)).mono ?_
  rintro e w5 ⟨v, n5, rfl, ⟨f3, rfl⟩, hA5, hB5, hs5, hb5⟩
  have hw5 := (hw4.then_alloc _).trans hb5
  have sb5 := hb5.heap (heap_at w4 (.cells #[.string ⟨#[121, 101, 115]⟩, .string ⟨#[110, 111]⟩, .string ⟨#[109, 97, 121, 98, 101]⟩] 9) _ rfl) (by omega)
  clear hs4 hb5 hw4
  have hl5 := hs5.lt
  go_wp2_with fail
  refine (flip_any σ n5 3 _ hs5 (by omega) (by omega) (by omega)).mono ?_
  rintro e w6 ⟨v, n6, rfl, ⟨f4, rfl⟩, hA6, hB6, hs6, hb6⟩
  have hw6 := (hw5).trans hb6
  have sb6 := hb6.heap sb5 (by omega)
  clear hs5 hb6 hw5 sb5
  have hl6 := hs6.lt
  go_wp2_with fail
  refine (flip_any σ n6 2 _ hs6 (by omega) (by omega) (by omega)).mono ?_
  rintro e w7 ⟨v, n7, rfl, ⟨f5, rfl⟩, hA7, hB7, hs7, hb7⟩
  have hw7 := (hw6).trans hb7
  have sb7 := hb7.heap sb6 (by omega)
  clear hs6 hb7 hw6 sb6
  have hl7 := hs7.lt
  have hs8 := hs7.keep (Kept.alloc (fun _ => True) w7 (.cells #[.string ⟨#[115, 99, 111, 114, 101]⟩, .int .i64 1, .int .i64 z1, .slice none 0 0, .bool f1, .bool false, .string ⟨#[110, 111, 116, 101]⟩, .int .i64 3, .int .i64 z2, .slice none 0 0, .bool false, .bool f2, .string ⟨#[114, 97, 110, 107]⟩, .int .i64 2, .int .i64 0, .slice (some ⟨w4.heap.size, 0, none⟩) 3 3, .bool f3, .bool f4, .string ⟨#[100, 101, 112, 116, 104]⟩, .int .i64 1, .int .i64 3, .slice none 0 0, .bool false, .bool f5] 146))
  have hw8 : But σ.b w0 (w7.alloc (.cells #[.string ⟨#[115, 99, 111, 114, 101]⟩, .int .i64 1, .int .i64 z1, .slice none 0 0, .bool f1, .bool false, .string ⟨#[110, 111, 116, 101]⟩, .int .i64 3, .int .i64 z2, .slice none 0 0, .bool false, .bool f2, .string ⟨#[114, 97, 110, 107]⟩, .int .i64 2, .int .i64 0, .slice (some ⟨w4.heap.size, 0, none⟩) 3 3, .bool f3, .bool f4, .string ⟨#[100, 101, 112, 116, 104]⟩, .int .i64 1, .int .i64 3, .slice none 0 0, .bool false, .bool f5] 146)) := hw7.then_alloc _
  have ac8 : Acc RQst 6 146 (fun k => k ≠ σ.b) w0.heap.size (w7.alloc (.cells #[.string ⟨#[115, 99, 111, 114, 101]⟩, .int .i64 1, .int .i64 z1, .slice none 0 0, .bool f1, .bool false, .string ⟨#[110, 111, 116, 101]⟩, .int .i64 3, .int .i64 z2, .slice none 0 0, .bool false, .bool f2, .string ⟨#[114, 97, 110, 107]⟩, .int .i64 2, .int .i64 0, .slice (some ⟨w4.heap.size, 0, none⟩) 3 3, .bool f3, .bool f4, .string ⟨#[100, 101, 112, 116, 104]⟩, .int .i64 1, .int .i64 3, .slice none 0 0, .bool false, .bool f5] 146)) (.slice (some ⟨w7.heap.size, 0, none⟩) 4 4) [⟨⟨#[115, 99, 111, 114, 101]⟩, 1, z1, [], f1, false⟩, ⟨⟨#[110, 111, 116, 101]⟩, 3, z2, [], false, f2⟩, ⟨⟨#[114, 97, 110, 107]⟩, 2, 0, [⟨#[121, 101, 115]⟩, ⟨#[110, 111]⟩, ⟨#[109, 97, 121, 98, 101]⟩], f3, f4⟩, ⟨⟨#[100, 101, 112, 116, 104]⟩, 1, 3, [], false, f5⟩] := by
    refine Acc.lit (sz := 6) (xs := [⟨⟨#[115, 99, 111, 114, 101]⟩, 1, z1, [], f1, false⟩, ⟨⟨#[110, 111, 116, 101]⟩, 3, z2, [], false, f2⟩, ⟨⟨#[114, 97, 110, 107]⟩, 2, 0, [⟨#[121, 101, 115]⟩, ⟨#[110, 111]⟩, ⟨#[109, 97, 121, 98, 101]⟩], f3, f4⟩, ⟨⟨#[100, 101, 112, 116, 104]⟩, 1, 3, [], false, f5⟩]) RQst.ok _ _ w7 [.string ⟨#[115, 99, 111, 114, 101]⟩, .int .i64 1, .int .i64 z1, .slice none 0 0, .bool f1, .bool false, .string ⟨#[110, 111, 116, 101]⟩, .int .i64 3, .int .i64 z2, .slice none 0 0, .bool false, .bool f2, .string ⟨#[114, 97, 110, 107]⟩, .int .i64 2, .int .i64 0, .slice (some ⟨w4.heap.size, 0, none⟩) 3 3, .bool f3, .bool f4, .string ⟨#[100, 101, 112, 116, 104]⟩, .int .i64 1, .int .i64 3, .slice none 0 0, .bool false, .bool f5] (by simp) hw7.size (by simp [maxLen]) (fun i hi => ?_)
    have h4 : i = 0 ∨ i = 1 ∨ i = 2 ∨ i = 3 := by simp at hi; omega
    rcases h4 with rfl | rfl | rfl | rfl
    · exact ⟨none, 0, rfl, Nat.le_refl _, ⟨by show 5 ≤ 1000000; decide, by show 0 ≤ 1000; decide⟩, Sl.nil _ _ _ _ _⟩
    · exact ⟨none, 0, rfl, Nat.le_refl _, ⟨by show 4 ≤ 1000000; decide, by show 0 ≤ 1000; decide⟩, Sl.nil _ _ _ _ _⟩
    · exact ⟨(some ⟨w4.heap.size, 0, none⟩), 3, rfl, Nat.le_refl _, ⟨by show 4 ≤ 1000000; decide, by show 3 ≤ 1000; decide⟩, Sl.lit_strs [⟨#[121, 101, 115]⟩, ⟨#[110, 111]⟩, ⟨#[109, 97, 121, 98, 101]⟩] sb7 rfl (by omega)⟩
    · exact ⟨none, 0, rfl, Nat.le_refl _, ⟨by show 5 ≤ 1000000; decide, by show 0 ≤ 1000; decide⟩, Sl.nil _ _ _ _ _⟩
  clear hs7 hw7 sb7
  obtain ⟨rb, hrb⟩ : ∃ b, b = w7.heap.size := ⟨_, rfl⟩
  have HRB := Lib.hid hrb
  rw [← hrb] at ac8
  clear hrb
  obtain ⟨n8, hnn⟩ : ∃ m, m = n7 := ⟨_, rfl⟩
  rw [← hnn] at hs8
  obtain ⟨ql, hql⟩ : ∃ l : List Qst, l = [⟨⟨#[115, 99, 111, 114, 101]⟩, 1, z1, [], f1, false⟩, ⟨⟨#[110, 111, 116, 101]⟩, 3, z2, [], false, f2⟩, ⟨⟨#[114, 97, 110, 107]⟩, 2, 0, [⟨#[121, 101, 115]⟩, ⟨#[110, 111]⟩, ⟨#[109, 97, 121, 98, 101]⟩], f3, f4⟩, ⟨⟨#[100, 101, 112, 116, 104]⟩, 1, 3, [], false, f5⟩] := ⟨_, rfl⟩
  have hqn : ql.length = 4 := by rw [hql]; rfl
  rw [← hql] at ac8
  clear hql
  go_upto_region 2 with fail
  simp only [← HRB.out]
  generalize w7.alloc (.cells #[.string ⟨#[115, 99, 111, 114, 101]⟩, .int .i64 1, .int .i64 z1, .slice none 0 0, .bool f1, .bool false, .string ⟨#[110, 111, 116, 101]⟩, .int .i64 3, .int .i64 z2, .slice none 0 0, .bool false, .bool f2, .string ⟨#[114, 97, 110, 107]⟩, .int .i64 2, .int .i64 0, .slice (some ⟨w4.heap.size, 0, none⟩) 3 3, .bool f3, .bool f4, .string ⟨#[100, 101, 112, 116, 104]⟩, .int .i64 1, .int .i64 3, .slice none 0 0, .bool false, .bool f5] 146) = w8 at *
  have hl8 := hs8.lt
  go_wp2_with fail
  refine (pick_any σ n8 _ 5 5 [1, 2, 3, 4, 4] _ (hs8.keep (Kept.alloc _ _ _)) (by omega) (Sl.lit_ints _ (heap_at w8 _ _ rfl) rfl (by omega)) (by omega) (by omega)).mono ?_
  rintro e w9 ⟨v, n9, rfl, ⟨z, rfl, hz⟩, hA9, hB9, hs9, hb9⟩
  have ac9 := (ac8.keepAll RQst.ok (Kept.alloc _ _ _)).keep RQst.ok hb9 (fun _ h => h) (fun k hk => by have := (ac8.lt k hk).1; omega)
  have hw9 := (hw8.then_alloc _).trans hb9
  obtain ⟨d, hd1, hd2, hd3⟩ : ∃ d : Nat, z = (d : Int) ∧ 1 ≤ d ∧ d ≤ 4 := by
    simp only [List.mem_cons, List.not_mem_nil, or_false] at hz
    exact ⟨z.toNat, by omega, by omega, by omega⟩
  subst hd1
  have hd4 : (d : Int) ≤ 4 := by omega
  have hd5 : (0 : Int) ≤ (d : Int) := by omega
  have hfin := Lib.hid (show PSheet σ w0.heap.size 1 4 (.slice (some ⟨rb, 0, none⟩) d 4) w9 from ⟨ql.take d, by rw [List.length_take]; omega, by rw [List.length_take]; omega, ac9.take (by omega)⟩)
  have hst := Lib.hid hs9
  have hbt := Lib.hid hw9
  clear ac8 ac9 hs8 hs9 hw8 hw9 hb9 hz
  go_wp2_with fail
  go_ret
  exact ⟨_, n9, rfl, hfin.out, by omega, by omega, hst.out, hbt.out⟩
end Go.Proofs.YtjbaijgdkkccbaaGreatDoor

/- The generator Sheet. -/
namespace Go.Proofs.YtjbaijgdkkccbaaGreatDoor
open Go.RowKit

theorem Acc.toI {α : Type} {R : Rel α} {sz : Nat} {T : TypeId} {F : Nat → Prop} {B : Nat} {w : World} {v : Value} {xs : List α} (h : Acc R sz T F B w v xs) : AccI R sz T (fun _ => F) B w v xs := h
theorem AccI.toA {α : Type} {R : Rel α} {sz : Nat} {T : TypeId} {F : Nat → Prop} {B : Nat} {w : World} {v : Value} {xs : List α} (h : AccI R sz T (fun _ => F) B w v xs) : Acc R sz T F B w v xs := h
/-- Element i of such a slice: where it lies. -/
theorem Acc.elem {α : Type} {R : Rel α} {sz : Nat} {T : TypeId} {F : Nat → Prop} {B : Nat} {w : World} {a : Option Addr} {n c : Nat} {xs : List α} (h : Acc R sz T F B w (.slice a n c) xs) {i : Nat} (hi : i < xs.length) :
    ∃ g vs, a = some ⟨g, 0, none⟩ ∧ B ≤ g ∧ g < w.heap.size ∧ AccH R sz T (fun _ => F) B w (.slice (some ⟨g, 0, none⟩) n c) xs i vs ∧ R (fun k => F k ∧ k ≠ g) w vs xs[i] := by
  obtain ⟨vs, h1, h2⟩ := AccI.open h.toI hi
  obtain ⟨g, cap, hv, _, hB⟩ := h1.form
  have hg := h1.lt g (by rw [hv]; rfl)
  injection hv with e1 e2 e3
  subst e1
  refine ⟨g, vs, rfl, hB, hg.2, h1, ?_⟩
  have e : (fun k => F k ∧ k ≠ g) = (fun k => F k ∧ (Value.slice (some ⟨g, 0, none⟩) n c).ownBlock ≠ some k) := by
    funext k
    apply propext
    constructor
    · exact fun h => ⟨h.1, fun e => h.2 (Option.some.inj e).symm⟩
    · exact fun h => ⟨h.1, fun e => h.2 (by rw [e]; rfl)⟩
  rw [e]; exact h2
/-- A store into cell j of element i, by which it reads as y. -/
theorem AccH.store {α : Type} {R : Rel α} (ok : R.Ok) {sz : Nat} {T : TypeId} {F : Nat → Prop} {B : Nat} {w : World} {g n c : Nat} {xs : List α} {i : Nat} {vs : List Value} (h : AccH R sz T (fun _ => F) B w (.slice (some ⟨g, 0, none⟩) n c) xs i vs) {j : Nat} (hj : j < sz) (u : Value) {y : α}
    (hy : R (fun k => F k ∧ k ≠ g) w (vs.set j u) y) : Acc R sz T F B (w.setCell ⟨g, i * sz + j, none⟩ u) (.slice (some ⟨g, 0, none⟩) n c) (xs.set i y) := by
  refine AccI.toA ((h.set ok hj u).close (ok.mono (F := fun k => F k ∧ k ≠ g) (fun k hk => ⟨hk.1, fun e => hk.2 (Option.some.inj e).symm⟩) (ok.keep (Kept.setCell (F := fun k => F k ∧ k ≠ g) w _ _ (fun hk => hk.2 rfl)) hy)))

set_option maxRecDepth 100000 in
set_option maxHeartbeats 12800000 in
theorem sheet_any (σ : St) (n0 : Nat) (w0 : World) (hs0 : Str σ w0 n0) (hn : n0 ≤ 4611686018427370000) :
    Calls Tryz.prog 42 #[.pointer (some ⟨σ.b, 0, none⟩)] w0 (StPost σ n0 40 w0 (PSheet σ w0.heap.size 0 5)) := by
  have hl0 := hs0.lt
  go_enter Tryz.func42, Tryz.ntmps42
  go_wp2_with fail
  refine (rightSheet_any σ n0 _ hs0 (by omega)).mono ?_
  rintro e w1 ⟨v, n1, rfl, ⟨xs, hx1, hx2, ac1⟩, hA1, hB1, hs1, hw1⟩
  obtain ⟨av, cv, rfl, hcv⟩ := ac1.form
  obtain ⟨m, hm⟩ : ∃ m, m = xs.length := ⟨_, rfl⟩
  have HM := Lib.hid hm
  rw [← hm] at ac1 hcv hx1 hx2 ⊢
  clear hm hs0
  have hl1 := hs1.lt
  go_wp2_with fail
  refine (flip_any σ n1 10 _ hs1 (by omega) (by omega) (by omega)).mono ?_
  rintro e w2 ⟨v, n2, rfl, ⟨fb, rfl⟩, hA2, hB2, hs2, hb2⟩
  have hw2 := hw1.trans hb2
  have ac2 := ac1.keep RQst.ok hb2 (fun _ h => h) (fun k hk => by have := (ac1.lt k hk).1; omega)
  clear hs1 hb2 hw1 ac1
  have hl2 := hs2.lt
  cases fb with
  | false =>
    have hfin := Lib.hid (show PSheet σ w0.heap.size 0 5 _ _ from ⟨xs, Nat.zero_le _, by have := HM.out; omega, ac2⟩)
    have hst := Lib.hid hs2
    have hbt := Lib.hid hw2
    clear hs2 hw2 ac2
    go_wp2_with fail
    go_ret
    exact ⟨_, n2, rfl, hfin.out, by omega, by omega, hst.out, hbt.out⟩
  | true =>
    go_wp2_with fail
    refine (next_any σ n2 (m : Int) _ hs2 (by omega) (by omega) (by omega)).mono ?_
    rintro e w3 ⟨v, n3, rfl, ⟨ri, rfl, hria, hrib⟩, hA3, hB3, hs3, hb3⟩
    have hw3 := hw2.trans hb3
    have ac3 := ac2.keep RQst.ok hb3 (fun _ h => h) (fun k hk => by have := (ac2.lt k hk).1; omega)
    clear hs2 hb3 hw2 ac2
    have hl3 := hs3.lt
    obtain ⟨i, rfl⟩ := Int.eq_ofNat_of_zero_le hria
    have hil : i < xs.length := by have := HM.out; omega
    have him : i < m := by have := HM.out; omega
    have hi1 : (0 : Int) ≤ (i : Int) := by omega
    have hi2 : (i : Int) < (m : Int) := by omega
    clear hria hrib
    obtain ⟨gb, -, rfl, hgB, hgl, -, -⟩ := ac3.elem hil
    go_wp2_with fail
    refine (next_any σ n3 6 _ hs3 (by omega) (by omega) (by omega)).mono ?_
    rintro e w4 ⟨v, n4, rfl, ⟨rc, rfl, hrca, hrcb⟩, hA4, hB4, hs4, hb4⟩
    have hw4 := hw3.trans hb4
    have ac4 := ac3.keep RQst.ok hb4 (fun _ h => h) (fun k hk => by have := (ac3.lt k hk).1; omega)
    clear hs3 hb4 hw3 ac3
    have hl4 := hs4.lt
    have hr6 : rc = 0 ∨ rc = 1 ∨ rc = 2 ∨ rc = 3 ∨ rc = 4 ∨ rc = 5 := by omega
    clear hrca hrcb
    rcases hr6 with rfl | rfl | rfl | rfl | rfl | rfl
    · go_wp2_with fail
      refine (some10_any σ n4 _ 3 3 [⟨#[]⟩, ⟨#[65]⟩, ⟨#[115, 99, 111, 114, 101]⟩] _ (hs4.keep (Kept.alloc _ _ _)) (by omega) (Sl.lit_strs _ (heap_at w4 _ _ rfl) rfl (by have := hs4.lt; omega)) (by omega) (by omega)).mono ?_
      rintro e w5 ⟨v, n5, rfl, ⟨y, rfl, -, hy⟩, hA5, hB5, hs5, hb5⟩
      have hw5 := (hw4.then_alloc _).trans hb5
      have ac5 := (ac4.keepAll RQst.ok (((Kept.refl _ _).then_alloc _))).keep RQst.ok hb5 (fun _ h => h) (fun k hk => by have := (ac4.lt k hk).1; omega)
      clear hs4 hb5 hw4 ac4
      have hl5 := hs5.lt
      obtain ⟨gb2, vs, hgb, -, -, ah, hq⟩ := ac5.elem hil
      obtain rfl : gb = gb2 := by injection hgb with e; injection e
      obtain ⟨oa, oc, rfl, hcp, ⟨hz1, hz2⟩, hos⟩ := hq
      have cc := ah.cell (j := 0) rfl
      have cf := ah.frozen (i * 6 + 0)
      have acf := AccH.store RQst.ok ah (j := 0) (by decide) (.string y) (y := ⟨y, xs[i].kind, xs[i].most, xs[i].opts, xs[i].needed, xs[i].secret⟩) ⟨oa, oc, rfl, hcp, ⟨hy, hz2⟩, hos⟩
      have hlen : (xs.set i ⟨y, xs[i].kind, xs[i].most, xs[i].opts, xs[i].needed, xs[i].secret⟩).length ≤ 5 := by rw [List.length_set]; have := HM.out; omega
      rw [Nat.add_zero] at cc cf
      rw [Nat.add_zero] at acf
      clear ah hos
      have hfin := Lib.hid (show PSheet σ w0.heap.size 0 5 _ _ from ⟨_, Nat.zero_le _, hlen, acf⟩)
      have hst := Lib.hid (hs5.set ⟨gb, i * 6, none⟩ (.string y) (by dsimp only; omega))
      have hbt := Lib.hid (hw5.then_setNew ⟨gb, i * 6, none⟩ (.string y) (by dsimp only; omega))
      clear hs5 hw5 ac5 acf
      go_wp2_with fail
      go_ret
      exact ⟨_, n5, rfl, hfin.out, by omega, by omega, hst.out, hbt.out⟩
    · go_wp2_with fail
      refine (odd10_any σ n4 1 3 _ hs4 (by omega) (by omega) (by omega) (by omega)).mono ?_
      rintro e w5 ⟨v, n5, rfl, ⟨y, rfl, hy⟩, hA5, hB5, hs5, hb5⟩
      have hw5 := hw4.trans hb5
      have ac5 := ac4.keep RQst.ok hb5 (fun _ h => h) (fun k hk => by have := (ac4.lt k hk).1; omega)
      clear hs4 hb5 hw4 ac4
      have hl5 := hs5.lt
      clear hy
      obtain ⟨gb2, vs, hgb, -, -, ah, hq⟩ := ac5.elem hil
      obtain rfl : gb = gb2 := by injection hgb with e; injection e
      obtain ⟨oa, oc, rfl, hcp, ⟨hz1, hz2⟩, hos⟩ := hq
      have cc := ah.cell (j := 1) rfl
      have cf := ah.frozen (i * 6 + 1)
      have acf := AccH.store RQst.ok ah (j := 1) (by decide) (.int .i64 y) (y := ⟨xs[i].key, y, xs[i].most, xs[i].opts, xs[i].needed, xs[i].secret⟩) ⟨oa, oc, rfl, hcp, ⟨hz1, hz2⟩, hos⟩
      have hlen : (xs.set i ⟨xs[i].key, y, xs[i].most, xs[i].opts, xs[i].needed, xs[i].secret⟩).length ≤ 5 := by rw [List.length_set]; have := HM.out; omega
      clear ah hos
      have hfin := Lib.hid (show PSheet σ w0.heap.size 0 5 _ _ from ⟨_, Nat.zero_le _, hlen, acf⟩)
      have hst := Lib.hid (hs5.set ⟨gb, i * 6 + 1, none⟩ (.int .i64 y) (by dsimp only; omega))
      have hbt := Lib.hid (hw5.then_setNew ⟨gb, i * 6 + 1, none⟩ (.int .i64 y) (by dsimp only; omega))
      clear hs5 hw5 ac5 acf
      go_wp2_with fail
      go_ret
      exact ⟨_, n5, rfl, hfin.out, by omega, by omega, hst.out, hbt.out⟩
    · go_wp2_with fail
      refine (odd10_any σ n4 0 100 _ hs4 (by omega) (by omega) (by omega) (by omega)).mono ?_
      rintro e w5 ⟨v, n5, rfl, ⟨y, rfl, hy⟩, hA5, hB5, hs5, hb5⟩
      have hw5 := hw4.trans hb5
      have ac5 := ac4.keep RQst.ok hb5 (fun _ h => h) (fun k hk => by have := (ac4.lt k hk).1; omega)
      clear hs4 hb5 hw4 ac4
      have hl5 := hs5.lt
      clear hy
      obtain ⟨gb2, vs, hgb, -, -, ah, hq⟩ := ac5.elem hil
      obtain rfl : gb = gb2 := by injection hgb with e; injection e
      obtain ⟨oa, oc, rfl, hcp, ⟨hz1, hz2⟩, hos⟩ := hq
      have cc := ah.cell (j := 2) rfl
      have cf := ah.frozen (i * 6 + 2)
      have acf := AccH.store RQst.ok ah (j := 2) (by decide) (.int .i64 y) (y := ⟨xs[i].key, xs[i].kind, y, xs[i].opts, xs[i].needed, xs[i].secret⟩) ⟨oa, oc, rfl, hcp, ⟨hz1, hz2⟩, hos⟩
      have hlen : (xs.set i ⟨xs[i].key, xs[i].kind, y, xs[i].opts, xs[i].needed, xs[i].secret⟩).length ≤ 5 := by rw [List.length_set]; have := HM.out; omega
      clear ah hos
      have hfin := Lib.hid (show PSheet σ w0.heap.size 0 5 _ _ from ⟨_, Nat.zero_le _, hlen, acf⟩)
      have hst := Lib.hid (hs5.set ⟨gb, i * 6 + 2, none⟩ (.int .i64 y) (by dsimp only; omega))
      have hbt := Lib.hid (hw5.then_setNew ⟨gb, i * 6 + 2, none⟩ (.int .i64 y) (by dsimp only; omega))
      clear hs5 hw5 ac5 acf
      go_wp2_with fail
      go_ret
      exact ⟨_, n5, rfl, hfin.out, by omega, by omega, hst.out, hbt.out⟩
    · obtain ⟨gb3, -, hge, -, hgl4, -, -⟩ := ac4.elem hil
      obtain rfl : gb = gb3 := by injection hge with e; injection e
      clear hge
      have hx0 := heap_old (.cells #[.slice none 0 0, .slice (some ⟨w4.heap.size, 0, none⟩) 1 1, .slice (some ⟨w4.heap.size + 1, 0, none⟩) 2 2, .slice (some ⟨w4.heap.size + 1 + 1, 0, none⟩) 1 1] 29) (heap_old (.cells #[.string ⟨#[65]⟩] 9) (heap_old (.cells #[.string ⟨#[121, 101, 115]⟩, .string ⟨#[121, 101, 115]⟩] 9) (heap_at w4 (.cells #[.string ⟨#[121, 101, 115]⟩] 9) _ rfl)))
      have hx1' := heap_old (.cells #[.slice none 0 0, .slice (some ⟨w4.heap.size, 0, none⟩) 1 1, .slice (some ⟨w4.heap.size + 1, 0, none⟩) 2 2, .slice (some ⟨w4.heap.size + 1 + 1, 0, none⟩) 1 1] 29) (heap_old (.cells #[.string ⟨#[65]⟩] 9) (heap_at (w4.alloc (.cells #[.string ⟨#[121, 101, 115]⟩] 9)) (.cells #[.string ⟨#[121, 101, 115]⟩, .string ⟨#[121, 101, 115]⟩] 9) (w4.heap.size + 1) (by simp)))
      have hx2' := heap_old (.cells #[.slice none 0 0, .slice (some ⟨w4.heap.size, 0, none⟩) 1 1, .slice (some ⟨w4.heap.size + 1, 0, none⟩) 2 2, .slice (some ⟨w4.heap.size + 1 + 1, 0, none⟩) 1 1] 29) (heap_at ((w4.alloc (.cells #[.string ⟨#[121, 101, 115]⟩] 9)).alloc (.cells #[.string ⟨#[121, 101, 115]⟩, .string ⟨#[121, 101, 115]⟩] 9)) (.cells #[.string ⟨#[65]⟩] 9) (w4.heap.size + 1 + 1) (by simp))
      have hx3 := heap_at (((w4.alloc (.cells #[.string ⟨#[121, 101, 115]⟩] 9)).alloc (.cells #[.string ⟨#[121, 101, 115]⟩, .string ⟨#[121, 101, 115]⟩] 9)).alloc (.cells #[.string ⟨#[65]⟩] 9)) (.cells #[.slice none 0 0, .slice (some ⟨w4.heap.size, 0, none⟩) 1 1, .slice (some ⟨w4.heap.size + 1, 0, none⟩) 2 2, .slice (some ⟨w4.heap.size + 1 + 1, 0, none⟩) 1 1] 29) (w4.heap.size + 1 + 1 + 1) (by simp)
      go_wp2_with fail
      refine (next_any σ n4 4 _ (hs4.keep ((((Kept.alloc _ _ _).then_alloc _).then_alloc _).then_alloc _)) (by omega) (by omega) (by omega)).mono ?_
      rintro e w5 ⟨v, n5, rfl, ⟨rk, rfl, hrka, hrkb⟩, hA5, hB5, hs5, hb5⟩
      have hw5 := ((((hw4.then_alloc _).then_alloc _).then_alloc _).then_alloc _).trans hb5
      have ac5 := (ac4.keepAll RQst.ok ((((((Kept.refl _ _).then_alloc _).then_alloc _).then_alloc _).then_alloc _))).keep RQst.ok hb5 (fun _ h => h) (fun k hk => by have := (ac4.lt k hk).1; omega)
      have hk0 := hb5.heap hx0 (by omega)
      have hk1 := hb5.heap hx1' (by omega)
      have hk2 := hb5.heap hx2' (by omega)
      have hk3 := hb5.heap hx3 (by omega)
      clear hx0 hx1' hx2' hx3
      clear hs4 hb5 hw4 ac4
      have hl5 := hs5.lt
      have hr4 : rk = 0 ∨ rk = 1 ∨ rk = 2 ∨ rk = 3 := by omega
      clear hrka hrkb
      have l0 := cell_at (i := 0) hk3 rfl
      have l1 := cell_at (i := 1) hk3 rfl
      have l2 := cell_at (i := 2) hk3 rfl
      have l3 := cell_at (i := 3) hk3 rfl
      rcases hr4 with rfl | rfl | rfl | rfl
      · obtain ⟨gb2, vs, hgb, -, -, ah, hq⟩ := ac5.elem hil
        obtain rfl : gb = gb2 := by injection hgb with e; injection e
        obtain ⟨oa, oc, rfl, hcp, ⟨hz1, hz2⟩, hos⟩ := hq
        have cc := ah.cell (j := 3) rfl
        have cf := ah.frozen (i * 6 + 3)
        have acf := AccH.store RQst.ok ah (j := 3) (by decide) (.slice none 0 0) (y := ⟨xs[i].key, xs[i].kind, xs[i].most, [], xs[i].needed, xs[i].secret⟩) ⟨none, 0, rfl, Nat.le_refl _, ⟨hz1, Nat.zero_le _⟩, Sl.nil _ _ _ _ _⟩
        have hlen : (xs.set i ⟨xs[i].key, xs[i].kind, xs[i].most, [], xs[i].needed, xs[i].secret⟩).length ≤ 5 := by rw [List.length_set]; have := HM.out; omega
        clear ah hos
        have hfin := Lib.hid (show PSheet σ w0.heap.size 0 5 _ _ from ⟨_, Nat.zero_le _, hlen, acf⟩)
        have hst := Lib.hid (hs5.set ⟨gb, i * 6 + 3, none⟩ (.slice none 0 0) (by dsimp only; omega))
        have hbt := Lib.hid (hw5.then_setNew ⟨gb, i * 6 + 3, none⟩ (.slice none 0 0) (by dsimp only; omega))
        clear hs5 hw5 ac5 acf
        go_wp2_with fail
        go_ret
        exact ⟨_, n5, rfl, hfin.out, by omega, by omega, hst.out, hbt.out⟩
      · obtain ⟨gb2, vs, hgb, -, -, ah, hq⟩ := ac5.elem hil
        obtain rfl : gb = gb2 := by injection hgb with e; injection e
        obtain ⟨oa, oc, rfl, hcp, ⟨hz1, hz2⟩, hos⟩ := hq
        have cc := ah.cell (j := 3) rfl
        have cf := ah.frozen (i * 6 + 3)
        have acf := AccH.store RQst.ok ah (j := 3) (by decide) (.slice (some ⟨w4.heap.size, 0, none⟩) 1 1) (y := ⟨xs[i].key, xs[i].kind, xs[i].most, [⟨#[121, 101, 115]⟩], xs[i].needed, xs[i].secret⟩) ⟨some ⟨w4.heap.size, 0, none⟩, 1, rfl, Nat.le_refl _, ⟨hz1, by show 1 ≤ 1000; decide⟩, Sl.lit_strs [⟨#[121, 101, 115]⟩] hk0 rfl ⟨by omega, by omega⟩⟩
        have hlen : (xs.set i ⟨xs[i].key, xs[i].kind, xs[i].most, [⟨#[121, 101, 115]⟩], xs[i].needed, xs[i].secret⟩).length ≤ 5 := by rw [List.length_set]; have := HM.out; omega
        clear ah hos
        have hfin := Lib.hid (show PSheet σ w0.heap.size 0 5 _ _ from ⟨_, Nat.zero_le _, hlen, acf⟩)
        have hst := Lib.hid (hs5.set ⟨gb, i * 6 + 3, none⟩ (.slice (some ⟨w4.heap.size, 0, none⟩) 1 1) (by dsimp only; omega))
        have hbt := Lib.hid (hw5.then_setNew ⟨gb, i * 6 + 3, none⟩ (.slice (some ⟨w4.heap.size, 0, none⟩) 1 1) (by dsimp only; omega))
        clear hs5 hw5 ac5 acf
        go_wp2_with fail
        go_ret
        exact ⟨_, n5, rfl, hfin.out, by omega, by omega, hst.out, hbt.out⟩
      · obtain ⟨gb2, vs, hgb, -, -, ah, hq⟩ := ac5.elem hil
        obtain rfl : gb = gb2 := by injection hgb with e; injection e
        obtain ⟨oa, oc, rfl, hcp, ⟨hz1, hz2⟩, hos⟩ := hq
        have cc := ah.cell (j := 3) rfl
        have cf := ah.frozen (i * 6 + 3)
        have acf := AccH.store RQst.ok ah (j := 3) (by decide) (.slice (some ⟨w4.heap.size + 1, 0, none⟩) 2 2) (y := ⟨xs[i].key, xs[i].kind, xs[i].most, [⟨#[121, 101, 115]⟩, ⟨#[121, 101, 115]⟩], xs[i].needed, xs[i].secret⟩) ⟨some ⟨w4.heap.size + 1, 0, none⟩, 2, rfl, Nat.le_refl _, ⟨hz1, by show 2 ≤ 1000; decide⟩, Sl.lit_strs [⟨#[121, 101, 115]⟩, ⟨#[121, 101, 115]⟩] hk1 rfl ⟨by omega, by omega⟩⟩
        have hlen : (xs.set i ⟨xs[i].key, xs[i].kind, xs[i].most, [⟨#[121, 101, 115]⟩, ⟨#[121, 101, 115]⟩], xs[i].needed, xs[i].secret⟩).length ≤ 5 := by rw [List.length_set]; have := HM.out; omega
        clear ah hos
        have hfin := Lib.hid (show PSheet σ w0.heap.size 0 5 _ _ from ⟨_, Nat.zero_le _, hlen, acf⟩)
        have hst := Lib.hid (hs5.set ⟨gb, i * 6 + 3, none⟩ (.slice (some ⟨w4.heap.size + 1, 0, none⟩) 2 2) (by dsimp only; omega))
        have hbt := Lib.hid (hw5.then_setNew ⟨gb, i * 6 + 3, none⟩ (.slice (some ⟨w4.heap.size + 1, 0, none⟩) 2 2) (by dsimp only; omega))
        clear hs5 hw5 ac5 acf
        go_wp2_with fail
        go_ret
        exact ⟨_, n5, rfl, hfin.out, by omega, by omega, hst.out, hbt.out⟩
      · obtain ⟨gb2, vs, hgb, -, -, ah, hq⟩ := ac5.elem hil
        obtain rfl : gb = gb2 := by injection hgb with e; injection e
        obtain ⟨oa, oc, rfl, hcp, ⟨hz1, hz2⟩, hos⟩ := hq
        have cc := ah.cell (j := 3) rfl
        have cf := ah.frozen (i * 6 + 3)
        have acf := AccH.store RQst.ok ah (j := 3) (by decide) (.slice (some ⟨w4.heap.size + 1 + 1, 0, none⟩) 1 1) (y := ⟨xs[i].key, xs[i].kind, xs[i].most, [⟨#[65]⟩], xs[i].needed, xs[i].secret⟩) ⟨some ⟨w4.heap.size + 1 + 1, 0, none⟩, 1, rfl, Nat.le_refl _, ⟨hz1, by show 1 ≤ 1000; decide⟩, Sl.lit_strs [⟨#[65]⟩] hk2 rfl ⟨by omega, by omega⟩⟩
        have hlen : (xs.set i ⟨xs[i].key, xs[i].kind, xs[i].most, [⟨#[65]⟩], xs[i].needed, xs[i].secret⟩).length ≤ 5 := by rw [List.length_set]; have := HM.out; omega
        clear ah hos
        have hfin := Lib.hid (show PSheet σ w0.heap.size 0 5 _ _ from ⟨_, Nat.zero_le _, hlen, acf⟩)
        have hst := Lib.hid (hs5.set ⟨gb, i * 6 + 3, none⟩ (.slice (some ⟨w4.heap.size + 1 + 1, 0, none⟩) 1 1) (by dsimp only; omega))
        have hbt := Lib.hid (hw5.then_setNew ⟨gb, i * 6 + 3, none⟩ (.slice (some ⟨w4.heap.size + 1 + 1, 0, none⟩) 1 1) (by dsimp only; omega))
        clear hs5 hw5 ac5 acf
        go_wp2_with fail
        go_ret
        exact ⟨_, n5, rfl, hfin.out, by omega, by omega, hst.out, hbt.out⟩
    · have hfin := Lib.hid (show PSheet σ w0.heap.size 0 5 (.slice none 0 0) w4 from ⟨[], Nat.zero_le _, by simp, Acc.nil _ _ _ _ _ _⟩)
      have hst := Lib.hid hs4
      have hbt := Lib.hid hw4
      clear hs4 hw4 ac4
      go_wp2_with fail
      go_ret
      exact ⟨_, n4, rfl, hfin.out, by omega, by omega, hst.out, hbt.out⟩
    · have h0l : 0 < xs.length := by have := HM.out; omega
      have h0m : (0 : Int) < (m : Int) := by omega
      obtain ⟨gb2, vs, hgb, -, -, ah, hq⟩ := ac4.elem h0l
      obtain rfl : gb = gb2 := by injection hgb with e; injection e
      obtain ⟨y, hy⟩ : ∃ y, y = xs[0] := ⟨_, rfl⟩
      rw [← hy] at hq
      obtain ⟨oa, oc, rfl, hcp, ⟨hz1, hz2⟩, hos⟩ := hq
      clear hy hgb
      have c0 := ah.cell (j := 0) rfl
      have c1 := ah.cell (j := 1) rfl
      have c2 := ah.cell (j := 2) rfl
      have c3 := ah.cell (j := 3) rfl
      have c4 := ah.cell (j := 4) rfl
      have c5 := ah.cell (j := 5) rfl
      simp only [Nat.zero_mul, Nat.zero_add] at c0 c1 c2 c3 c4 c5
      clear ah
      go_wp2_with (at_builtin; refine wp_append1 RQst.ok _ rfl _ _ 26 rfl w0.heap.size 146 (.agg #[.string ⟨#[]⟩, .int .i64 0, .int .i64 0, .slice none 0 0, .bool false, .bool false]) 6 64 Tryz.underlying26 (by kernel_rfl) rfl (by decide) (fun k => k ≠ σ.b) _ xs rfl (ac4.keepAll RQst.ok (Kept.alloc _ _ _)) ⟨_, 0, none⟩ 1 [.string y.key, .int .i64 y.kind, .int .i64 y.most, .slice oa y.opts.length oc, .bool y.needed, .bool y.secret] rfl rfl (World.news_of_block (cs := #[.string y.key, .int .i64 y.kind, .int .i64 y.most, .slice oa y.opts.length oc, .bool y.needed, .bool y.secret]) (heap_alloc_new w4 _)) (by simp [Value.oneCell']) y ⟨oa, oc, rfl, hcp, ⟨hz1, hz2⟩, (hos.keep RStr.ok (Kept.alloc _ _ _)).mono RStr.ok (fun k hk => ⟨hk.1, fun e => hk.2 (Option.some.inj e).symm⟩)⟩ (by have := HM.out; omega) (by decide) (by have := hw4.size; simp; omega) ?_)
      intro p' c' w9 hacc9 hg9 _
      have hk9 : Kept (fun k => k < w0.heap.size) w4 w9 := ((Kept.refl _ _).then_alloc _).grown hg9 (fun k hk => Or.inr (by have := (ac4.lt k hk).1; omega))
      have hw9 : But σ.b w0 w9 := hw4.trans2 hk9 (fun k hk _ => hk)
      have hs9 := hs4.kept hk9 (fun k hk => by omega)
      have hfin := Lib.hid (show PSheet σ w0.heap.size 0 5 _ _ from ⟨_, Nat.zero_le _, by simp; have := HM.out; omega, hacc9⟩)
      rw [← HM.out] at hfin
      have hst := Lib.hid hs9
      have hbt := Lib.hid hw9
      clear hs4 hw4 ac4 hk9 hg9 hacc9 hs9 hw9
      rw [← HM.out]
      go_wp2_with fail
      go_ret
      exact ⟨_, n4, rfl, hfin.out, by omega, by omega, hst.out, hbt.out⟩
end Go.Proofs.YtjbaijgdkkccbaaGreatDoor
