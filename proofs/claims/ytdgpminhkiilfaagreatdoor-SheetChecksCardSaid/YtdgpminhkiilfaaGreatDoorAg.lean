/- The generator RightSheet. -/
import Derived.Test.YtdgpminhkiilfaaGreatDoorZi
import Derived.Test.YtdgpminhkiilfaaGreatDoorAa
import Derived.Laws.OwnMore
namespace Go.Proofs.YtdgpminhkiilfaaGreatDoor
open Go.RowKit

/-- A literal of elements. -/
theorem Acc.lit {α : Type} {R : Rel α} {sz : Nat} {F : Nat → Prop} {xs : List α} (ok : R.Ok) (T : TypeId) (B : Nat) (w : World) (cells : List Value) (hc : cells.length = xs.length * sz) (hB : B ≤ w.heap.size) (hm : xs.length ≤ maxLen)
    (he : ∀ i (h : i < xs.length), R F w ((cells.drop (i * sz)).take sz) xs[i]) : Acc R sz T F B (w.alloc (.cells cells.toArray T)) (.slice (some ⟨w.heap.size, 0, none⟩) xs.length xs.length) xs := by
  refine ⟨cells, ⟨hc, Or.inr ⟨w.heap.size, xs.length, cells.toArray, rfl, hB, heap_at _ _ _ rfl, Nat.le_refl _, hm, by simpa using hc, by rw [List.take_of_length_le (by simp [hc])]⟩⟩, fun i hi => ?_⟩
  refine ok.mono (fun k hk => ⟨hk.1, fun e => ?_⟩) (ok.keep (Kept.alloc _ _ _) (ok.live (he i hi)))
  have e2 : w.heap.size = k := Option.some.inj e
  omega
/-- A sheet of the call's own. -/
def PSheet (σ : St) (B lo hi : Nat) (v : Value) (w : World) : Prop := ∃ xs : List Qst, lo ≤ xs.length ∧ xs.length ≤ hi ∧ Acc RQst 6 73 (fun k => k ≠ σ.b) B w v xs
theorem PSheet.keep {σ : St} {B lo hi : Nat} {v : Value} {w w' : World} (h : PSheet σ B lo hi v w) (hB : σ.b < B) (k : But σ.b w w') : PSheet σ B lo hi v w' := by
  obtain ⟨xs, h1, h2, h3⟩ := h
  exact ⟨xs, h1, h2, h3.keep RQst.ok k (fun _ h => h) (fun j hj => by have := (h3.lt j hj).1; omega)⟩

set_option maxRecDepth 100000 in
set_option maxHeartbeats 6400000 in
theorem rightSheet_any (σ : St) (n0 : Nat) (w0 : World) (hs0 : Str σ w0 n0) (hn : n0 ≤ 4611686018427380000) :
    Calls Tryz.prog 36 #[.pointer (some ⟨σ.b, 0, none⟩)] w0 (StPost σ n0 30 w0 (PSheet σ w0.heap.size 1 4)) := by
  have hl0 := hs0.lt
  have hw0 : But σ.b w0 w0 := Kept.refl _ _
  go_enter Tryz.func36, Tryz.ntmps36
  go_wp2_with fail
  refine (pick_any σ n0 _ 4 4 [10, 10, 5, 100] _ (hs0.keep (Kept.alloc _ _ _)) (by omega) (Sl.lit_ints _ (heap_at w0 _ _ rfl) rfl (by have := hs0.lt; omega)) (by omega) (by omega)).mono ?_
  rintro e w1 ⟨v, n1, rfl, ⟨z1, rfl, hz1⟩, hA1, hB1, hs1, hb1⟩
  have hw1 := (hw0.then_alloc _).trans hb1
  clear hs0 hb1 hw0
  have hl1 := hs1.lt
  clear hz1
  go_wp2_with fail
  refine (flip_any σ n1 2 _ hs1 (by omega) (by omega) (by omega)).mono ?_
  rintro e w2 ⟨v, n2, rfl, ⟨f1, rfl⟩, hA2, hB2, hs2, hb2⟩
  have hw2 := (hw1).trans hb2
  clear hs1 hb2 hw1
  have hl2 := hs2.lt
  go_wp2_with fail
  refine (pick_any σ n2 _ 3 3 [1, 20, 5000] _ (hs2.keep (Kept.alloc _ _ _)) (by omega) (Sl.lit_ints _ (heap_at w2 _ _ rfl) rfl (by have := hs2.lt; omega)) (by omega) (by omega)).mono ?_
  rintro e w3 ⟨v, n3, rfl, ⟨z2, rfl, hz2⟩, hA3, hB3, hs3, hb3⟩
  have hw3 := (hw2.then_alloc _).trans hb3
  clear hs2 hb3 hw2
  have hl3 := hs3.lt
  clear hz2
  go_wp2_with fail
  refine (flip_any σ n3 2 _ hs3 (by omega) (by omega) (by omega)).mono ?_
  rintro e w4 ⟨v, n4, rfl, ⟨f2, rfl⟩, hA4, hB4, hs4, hb4⟩
  have hw4 := (hw3).trans hb4
  clear hs3 hb4 hw3
  have hl4 := hs4.lt
  go_wp2_with fail
  refine (flip_any σ n4 3 _ (hs4.keep (Kept.alloc _ _ _)) (by omega) (by omega) (by omega)).mono ?_
  rintro e w5 ⟨v, n5, rfl, ⟨f3, rfl⟩, hA5, hB5, hs5, hb5⟩
  have hw5 := (hw4.then_alloc _).trans hb5
  have sb5 := hb5.heap (heap_at w4 (.cells #[.string ⟨#[121, 101, 115]⟩, .string ⟨#[110, 111]⟩, .string ⟨#[109, 97, 121, 98, 101]⟩] 9) _ rfl) (by omega)
  clear hs4 hb5 hw4
  have hl5 := hs5.lt
  go_wp2_with fail
  refine (flip_any σ n5 3 _ hs5 (by omega) (by omega) (by omega)).mono ?_
  rintro e w6 ⟨v, n6, rfl, ⟨f4, rfl⟩, hA6, hB6, hs6, hb6⟩
  have hw6 := (hw5).trans hb6
  have sb6 := hb6.heap sb5 (by omega)
  clear hs5 hb6 hw5 sb5
  have hl6 := hs6.lt
  go_wp2_with fail
  refine (flip_any σ n6 2 _ hs6 (by omega) (by omega) (by omega)).mono ?_
  rintro e w7 ⟨v, n7, rfl, ⟨f5, rfl⟩, hA7, hB7, hs7, hb7⟩
  have hw7 := (hw6).trans hb7
  have sb7 := hb7.heap sb6 (by omega)
  clear hs6 hb7 hw6 sb6
  have hl7 := hs7.lt
  have hs8 := hs7.keep (Kept.alloc (fun _ => True) w7 (.cells #[.string ⟨#[115, 99, 111, 114, 101]⟩, .int .i64 1, .int .i64 z1, .slice none 0 0, .bool f1, .bool false, .string ⟨#[110, 111, 116, 101]⟩, .int .i64 3, .int .i64 z2, .slice none 0 0, .bool false, .bool f2, .string ⟨#[114, 97, 110, 107]⟩, .int .i64 2, .int .i64 0, .slice (some ⟨w4.heap.size, 0, none⟩) 3 3, .bool f3, .bool f4, .string ⟨#[100, 101, 112, 116, 104]⟩, .int .i64 1, .int .i64 3, .slice none 0 0, .bool false, .bool f5] 73))
  have hw8 : But σ.b w0 (w7.alloc (.cells #[.string ⟨#[115, 99, 111, 114, 101]⟩, .int .i64 1, .int .i64 z1, .slice none 0 0, .bool f1, .bool false, .string ⟨#[110, 111, 116, 101]⟩, .int .i64 3, .int .i64 z2, .slice none 0 0, .bool false, .bool f2, .string ⟨#[114, 97, 110, 107]⟩, .int .i64 2, .int .i64 0, .slice (some ⟨w4.heap.size, 0, none⟩) 3 3, .bool f3, .bool f4, .string ⟨#[100, 101, 112, 116, 104]⟩, .int .i64 1, .int .i64 3, .slice none 0 0, .bool false, .bool f5] 73)) := hw7.then_alloc _
  have ac8 : Acc RQst 6 73 (fun k => k ≠ σ.b) w0.heap.size (w7.alloc (.cells #[.string ⟨#[115, 99, 111, 114, 101]⟩, .int .i64 1, .int .i64 z1, .slice none 0 0, .bool f1, .bool false, .string ⟨#[110, 111, 116, 101]⟩, .int .i64 3, .int .i64 z2, .slice none 0 0, .bool false, .bool f2, .string ⟨#[114, 97, 110, 107]⟩, .int .i64 2, .int .i64 0, .slice (some ⟨w4.heap.size, 0, none⟩) 3 3, .bool f3, .bool f4, .string ⟨#[100, 101, 112, 116, 104]⟩, .int .i64 1, .int .i64 3, .slice none 0 0, .bool false, .bool f5] 73)) (.slice (some ⟨w7.heap.size, 0, none⟩) 4 4) [⟨⟨#[115, 99, 111, 114, 101]⟩, 1, z1, [], f1, false⟩, ⟨⟨#[110, 111, 116, 101]⟩, 3, z2, [], false, f2⟩, ⟨⟨#[114, 97, 110, 107]⟩, 2, 0, [⟨#[121, 101, 115]⟩, ⟨#[110, 111]⟩, ⟨#[109, 97, 121, 98, 101]⟩], f3, f4⟩, ⟨⟨#[100, 101, 112, 116, 104]⟩, 1, 3, [], false, f5⟩] := by
    refine Acc.lit (sz := 6) (xs := [⟨⟨#[115, 99, 111, 114, 101]⟩, 1, z1, [], f1, false⟩, ⟨⟨#[110, 111, 116, 101]⟩, 3, z2, [], false, f2⟩, ⟨⟨#[114, 97, 110, 107]⟩, 2, 0, [⟨#[121, 101, 115]⟩, ⟨#[110, 111]⟩, ⟨#[109, 97, 121, 98, 101]⟩], f3, f4⟩, ⟨⟨#[100, 101, 112, 116, 104]⟩, 1, 3, [], false, f5⟩]) RQst.ok _ _ w7 [.string ⟨#[115, 99, 111, 114, 101]⟩, .int .i64 1, .int .i64 z1, .slice none 0 0, .bool f1, .bool false, .string ⟨#[110, 111, 116, 101]⟩, .int .i64 3, .int .i64 z2, .slice none 0 0, .bool false, .bool f2, .string ⟨#[114, 97, 110, 107]⟩, .int .i64 2, .int .i64 0, .slice (some ⟨w4.heap.size, 0, none⟩) 3 3, .bool f3, .bool f4, .string ⟨#[100, 101, 112, 116, 104]⟩, .int .i64 1, .int .i64 3, .slice none 0 0, .bool false, .bool f5] (by simp) hw7.size (by simp [maxLen]) (fun i hi => ?_)
    have h4 : i = 0 ∨ i = 1 ∨ i = 2 ∨ i = 3 := by simp at hi; omega
    rcases h4 with rfl | rfl | rfl | rfl
    · exact ⟨none, 0, rfl, Nat.le_refl _, ⟨by show 5 ≤ 1000000; decide, by show 0 ≤ 1000; decide⟩, Sl.nil _ _ _ _ _⟩
    · exact ⟨none, 0, rfl, Nat.le_refl _, ⟨by show 4 ≤ 1000000; decide, by show 0 ≤ 1000; decide⟩, Sl.nil _ _ _ _ _⟩
    · exact ⟨(some ⟨w4.heap.size, 0, none⟩), 3, rfl, Nat.le_refl _, ⟨by show 4 ≤ 1000000; decide, by show 3 ≤ 1000; decide⟩, Sl.lit_strs [⟨#[121, 101, 115]⟩, ⟨#[110, 111]⟩, ⟨#[109, 97, 121, 98, 101]⟩] sb7 rfl (by omega)⟩
    · exact ⟨none, 0, rfl, Nat.le_refl _, ⟨by show 5 ≤ 1000000; decide, by show 0 ≤ 1000; decide⟩, Sl.nil _ _ _ _ _⟩
  clear hs7 hw7 sb7
  obtain ⟨rb, hrb⟩ : ∃ b, b = w7.heap.size := ⟨_, rfl⟩
  have HRB := Lib.hid hrb
  rw [← hrb] at ac8
  clear hrb
  obtain ⟨n8, hnn⟩ : ∃ m, m = n7 := ⟨_, rfl⟩
  rw [← hnn] at hs8
  obtain ⟨ql, hql⟩ : ∃ l : List Qst, l = [⟨⟨#[115, 99, 111, 114, 101]⟩, 1, z1, [], f1, false⟩, ⟨⟨#[110, 111, 116, 101]⟩, 3, z2, [], false, f2⟩, ⟨⟨#[114, 97, 110, 107]⟩, 2, 0, [⟨#[121, 101, 115]⟩, ⟨#[110, 111]⟩, ⟨#[109, 97, 121, 98, 101]⟩], f3, f4⟩, ⟨⟨#[100, 101, 112, 116, 104]⟩, 1, 3, [], false, f5⟩] := ⟨_, rfl⟩
  have hqn : ql.length = 4 := by rw [hql]; rfl
  rw [← hql] at ac8
  clear hql
  go_upto_region 2 with fail
  simp only [← HRB.out]
  generalize w7.alloc (.cells #[.string ⟨#[115, 99, 111, 114, 101]⟩, .int .i64 1, .int .i64 z1, .slice none 0 0, .bool f1, .bool false, .string ⟨#[110, 111, 116, 101]⟩, .int .i64 3, .int .i64 z2, .slice none 0 0, .bool false, .bool f2, .string ⟨#[114, 97, 110, 107]⟩, .int .i64 2, .int .i64 0, .slice (some ⟨w4.heap.size, 0, none⟩) 3 3, .bool f3, .bool f4, .string ⟨#[100, 101, 112, 116, 104]⟩, .int .i64 1, .int .i64 3, .slice none 0 0, .bool false, .bool f5] 73) = w8 at *
  have hl8 := hs8.lt
  go_wp2_with fail
  refine (pick_any σ n8 _ 5 5 [1, 2, 3, 4, 4] _ (hs8.keep (Kept.alloc _ _ _)) (by omega) (Sl.lit_ints _ (heap_at w8 _ _ rfl) rfl (by omega)) (by omega) (by omega)).mono ?_
  rintro e w9 ⟨v, n9, rfl, ⟨z, rfl, hz⟩, hA9, hB9, hs9, hb9⟩
  have ac9 := (ac8.keepAll RQst.ok (Kept.alloc _ _ _)).keep RQst.ok hb9 (fun _ h => h) (fun k hk => by have := (ac8.lt k hk).1; omega)
  have hw9 := (hw8.then_alloc _).trans hb9
  obtain ⟨d, hd1, hd2, hd3⟩ : ∃ d : Nat, z = (d : Int) ∧ 1 ≤ d ∧ d ≤ 4 := by
    simp only [List.mem_cons, List.not_mem_nil, or_false] at hz
    exact ⟨z.toNat, by omega, by omega, by omega⟩
  subst hd1
  have hd4 : (d : Int) ≤ 4 := by omega
  have hd5 : (0 : Int) ≤ (d : Int) := by omega
  have hfin := Lib.hid (show PSheet σ w0.heap.size 1 4 (.slice (some ⟨rb, 0, none⟩) d 4) w9 from ⟨ql.take d, by rw [List.length_take]; omega, by rw [List.length_take]; omega, ac9.take (by omega)⟩)
  have hst := Lib.hid hs9
  have hbt := Lib.hid hw9
  clear ac8 ac9 hs8 hs9 hw8 hw9 hb9 hz
  go_wp2_with fail
  go_ret
  exact ⟨_, n9, rfl, hfin.out, by omega, by omega, hst.out, hbt.out⟩
end Go.Proofs.YtdgpminhkiilfaaGreatDoor
