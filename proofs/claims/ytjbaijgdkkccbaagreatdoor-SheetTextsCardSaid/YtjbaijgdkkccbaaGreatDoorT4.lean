/- RightSheet, with what its questions are; Changed. -/
import Derived.Test.YtjbaijgdkkccbaaGreatDoorT5
import Derived.Test.YtjbaijgdkkccbaaGreatDoorAh
import Derived.Test.YtjbaijgdkkccbaaGreatDoorZc
import Derived.Test.YtjbaijgdkkccbaaGreatDoorFr
import Derived.Laws.Cover4
namespace Go.Proofs.YtjbaijgdkkccbaaGreatDoor
open Go.RowKit

/-- A sheet of the call's own that can be written. -/
def PSheetF (σ : St) (B : Nat) (v : Value) (w : World) : Prop := ∃ xs : List Qst, (∀ q ∈ xs, QFit q) ∧ (sheetL xs).length ≤ 600 ∧ 1 ≤ xs.length ∧ xs.length ≤ 4 ∧ Acc RQst 6 146 (fun k => k ≠ σ.b) B w v xs
theorem lineQ_bound {q : Qst} (h : QFit q) : (lineW (wordsQ q)).length ≤ 46 + q.key.size + 65 * q.opts.length := by
  have h0 := lineW_le (wordsQ q)
  have h1 := headQ_sum q
  have h3 := sum_le (fun w => w.size + 1) 65 q.opts (fun x hx => by have := h.opts x hx; show x.size + 1 ≤ 65; omega)
  have h5 := itoaB_size q.most h.most1 h.most2
  have h6 : ((wordsQ q).map fun w => w.size + 1).sum = ((headQ q).map fun w => w.size + 1).sum + ((if q.kind = 2 then q.opts else [itoaB q.most]).map fun w => w.size + 1).sum := by unfold wordsQ; rw [List.map_append, List.sum_append]
  have h7 : ((if q.kind = 2 then q.opts else [itoaB q.most]).map fun w => w.size + 1).sum ≤ 22 + 65 * q.opts.length := by
    split
    · omega
    · simp; omega
  omega
theorem QFit.of {key : ByteArray} {kind most : Int} {opts : List ByteArray} (n s : Bool) (h1 : 1 ≤ kind) (h2 : kind ≤ 3) (h3 : key.size ≤ 64) (h4 : opts.length ≤ 20) (h5 : ∀ o ∈ opts, o.size ≤ 64) (h6 : kind ≠ 2 → opts = []) (h7 : -2000000000000 ≤ most) (h8 : most ≤ 2000000000000) : QFit ⟨key, kind, most, opts, n, s⟩ := ⟨h1, h2, h3, h4, h5, h6, h7, h8⟩
theorem goodSheet (z1 z2 : Int) (f1 f2 f3 f4 f5 : Bool) (h1 : 0 ≤ z1 ∧ z1 ≤ 5000) (h2 : 0 ≤ z2 ∧ z2 ≤ 5000) : (∀ q ∈ ([⟨⟨#[115, 99, 111, 114, 101]⟩, 1, z1, [], f1, false⟩, ⟨⟨#[110, 111, 116, 101]⟩, 3, z2, [], false, f2⟩, ⟨⟨#[114, 97, 110, 107]⟩, 2, 0, [⟨#[121, 101, 115]⟩, ⟨#[110, 111]⟩, ⟨#[109, 97, 121, 98, 101]⟩], f3, f4⟩, ⟨⟨#[100, 101, 112, 116, 104]⟩, 1, 3, [], false, f5⟩] : List Qst), QFit q) ∧ (sheetL [⟨⟨#[115, 99, 111, 114, 101]⟩, 1, z1, [], f1, false⟩, ⟨⟨#[110, 111, 116, 101]⟩, 3, z2, [], false, f2⟩, ⟨⟨#[114, 97, 110, 107]⟩, 2, 0, [⟨#[121, 101, 115]⟩, ⟨#[110, 111]⟩, ⟨#[109, 97, 121, 98, 101]⟩], f3, f4⟩, ⟨⟨#[100, 101, 112, 116, 104]⟩, 1, 3, [], false, f5⟩]).length ≤ 600 := by
  have g1 : QFit ⟨⟨#[115, 99, 111, 114, 101]⟩, 1, z1, [], f1, false⟩ := QFit.of _ _ (by decide) (by decide) (by decide) (by decide) (fun o ho => nomatch ho) (fun _ => rfl) (by omega) (by omega)
  have g2 : QFit ⟨⟨#[110, 111, 116, 101]⟩, 3, z2, [], false, f2⟩ := QFit.of _ _ (by decide) (by decide) (by decide) (by decide) (fun o ho => nomatch ho) (fun _ => rfl) (by omega) (by omega)
  have g3 : QFit ⟨⟨#[114, 97, 110, 107]⟩, 2, 0, [⟨#[121, 101, 115]⟩, ⟨#[110, 111]⟩, ⟨#[109, 97, 121, 98, 101]⟩], f3, f4⟩ := QFit.of _ _ (by decide) (by decide) (by decide) (by decide) (by decide) (fun h => absurd rfl h) (by decide) (by decide)
  have g4 : QFit ⟨⟨#[100, 101, 112, 116, 104]⟩, 1, 3, [], false, f5⟩ := QFit.of _ _ (by decide) (by decide) (by decide) (by decide) (fun o ho => nomatch ho) (fun _ => rfl) (by decide) (by decide)
  refine ⟨fun q hq => ?_, ?_⟩
  · simp only [List.mem_cons, List.not_mem_nil, or_false] at hq
    rcases hq with rfl | rfl | rfl | rfl
    · exact g1
    · exact g2
    · exact g3
    · exact g4
  · have b1 := lineQ_bound g1
    have b2 := lineQ_bound g2
    have b3 := lineQ_bound g3
    have b4 := lineQ_bound g4
    have s1 : (⟨#[115, 99, 111, 114, 101]⟩ : ByteArray).size = 5 := rfl
    have s2 : (⟨#[110, 111, 116, 101]⟩ : ByteArray).size = 4 := rfl
    have s3 : (⟨#[114, 97, 110, 107]⟩ : ByteArray).size = 4 := rfl
    have s4 : (⟨#[100, 101, 112, 116, 104]⟩ : ByteArray).size = 5 := rfl
    simp only [List.length_cons, List.length_nil, s1, s2, s3, s4] at b1 b2 b3 b4
    simp only [sheetL, List.flatMap_cons, List.flatMap_nil, List.length_append, List.length_nil]
    omega
set_option maxRecDepth 100000 in
set_option maxHeartbeats 6400000 in
theorem rightSheetF_any (σ : St) (n0 : Nat) (w0 : World) (hs0 : Str σ w0 n0) (hn : n0 ≤ 4611686018427380000) :
    Calls Tryz.prog 46 #[.pointer (some ⟨σ.b, 0, none⟩)] w0 (StPost σ n0 30 w0 (PSheetF σ w0.heap.size)) := by
  have hl0 := hs0.lt
  have hw0 : But σ.b w0 w0 := Kept.refl _ _
  go_enter Tryz.func46, Tryz.ntmps46
  go_wp2_with fail
  refine (pick_any σ n0 _ 4 4 [10, 10, 5, 100] _ (hs0.keep (Kept.alloc _ _ _)) (by omega) (Sl.lit_ints _ (heap_at w0 _ _ rfl) rfl (by have := hs0.lt; omega)) (by omega) (by omega)).mono ?_
  rintro e w1 ⟨v, n1, rfl, ⟨z1, rfl, hz1⟩, hA1, hB1, hs1, hb1⟩
  have hw1 := (hw0.then_alloc _).trans hb1
  clear hs0 hb1 hw0
  have hl1 := hs1.lt
  have HZ1 := Lib.hid hz1
  clear hz1
  go_wp2_with fail
  refine (flip_any σ n1 2 _ hs1 (by omega) (by omega) (by omega)).mono ?_
  rintro e w2 ⟨v, n2, rfl, ⟨f1, rfl⟩, hA2, hB2, hs2, hb2⟩
  have hw2 := (hw1).trans hb2
  clear hs1 hb2 hw1
  have hl2 := hs2.lt
  go_wp2_with fail
  refine (pick_any σ n2 _ 3 3 [1, 20, 5000] _ (hs2.keep (Kept.alloc _ _ _)) (by omega) (Sl.lit_ints _ (heap_at w2 _ _ rfl) rfl (by have := hs2.lt; omega)) (by omega) (by omega)).mono ?_
  rintro e w3 ⟨v, n3, rfl, ⟨z2, rfl, hz2⟩, hA3, hB3, hs3, hb3⟩
  have hw3 := (hw2.then_alloc _).trans hb3
  clear hs2 hb3 hw2
  have hl3 := hs3.lt
  have HZ2 := Lib.hid hz2
  clear hz2
  go_wp2_with fail
  refine (flip_any σ n3 2 _ hs3 (by omega) (by omega) (by omega)).mono ?_
  rintro e w4 ⟨v, n4, rfl, ⟨f2, rfl⟩, hA4, hB4, hs4, hb4⟩
  have hw4 := (hw3).trans hb4
  clear hs3 hb4 hw3
  have hl4 := hs4.lt
  go_wp2_with fail
  refine (flip_any σ n4 3 _ (hs4.keep (Kept.alloc _ _ _)) (by omega) (by omega) (by omega)).mono ?_
  rintro e w5 ⟨v, n5, rfl, ⟨f3, rfl⟩, hA5, hB5, hs5, hb5⟩
  have hw5 := (hw4.then_alloc _).trans hb5
  have sb5 := hb5.heap (heap_at w4 (.cells #[.string ⟨#[121, 101, 115]⟩, .string ⟨#[110, 111]⟩, .string ⟨#[109, 97, 121, 98, 101]⟩] 9) _ rfl) (by omega)
  clear hs4 hb5 hw4
  have hl5 := hs5.lt
  go_wp2_with fail
  refine (flip_any σ n5 3 _ hs5 (by omega) (by omega) (by omega)).mono ?_
  rintro e w6 ⟨v, n6, rfl, ⟨f4, rfl⟩, hA6, hB6, hs6, hb6⟩
  have hw6 := (hw5).trans hb6
  have sb6 := hb6.heap sb5 (by omega)
  clear hs5 hb6 hw5 sb5
  have hl6 := hs6.lt
  go_wp2_with fail
  refine (flip_any σ n6 2 _ hs6 (by omega) (by omega) (by omega)).mono ?_
  rintro e w7 ⟨v, n7, rfl, ⟨f5, rfl⟩, hA7, hB7, hs7, hb7⟩
  have hw7 := (hw6).trans hb7
  have sb7 := hb7.heap sb6 (by omega)
  clear hs6 hb7 hw6 sb6
  have hl7 := hs7.lt
  have hs8 := hs7.keep (Kept.alloc (fun _ => True) w7 (.cells #[.string ⟨#[115, 99, 111, 114, 101]⟩, .int .i64 1, .int .i64 z1, .slice none 0 0, .bool f1, .bool false, .string ⟨#[110, 111, 116, 101]⟩, .int .i64 3, .int .i64 z2, .slice none 0 0, .bool false, .bool f2, .string ⟨#[114, 97, 110, 107]⟩, .int .i64 2, .int .i64 0, .slice (some ⟨w4.heap.size, 0, none⟩) 3 3, .bool f3, .bool f4, .string ⟨#[100, 101, 112, 116, 104]⟩, .int .i64 1, .int .i64 3, .slice none 0 0, .bool false, .bool f5] 146))
  have hw8 : But σ.b w0 (w7.alloc (.cells #[.string ⟨#[115, 99, 111, 114, 101]⟩, .int .i64 1, .int .i64 z1, .slice none 0 0, .bool f1, .bool false, .string ⟨#[110, 111, 116, 101]⟩, .int .i64 3, .int .i64 z2, .slice none 0 0, .bool false, .bool f2, .string ⟨#[114, 97, 110, 107]⟩, .int .i64 2, .int .i64 0, .slice (some ⟨w4.heap.size, 0, none⟩) 3 3, .bool f3, .bool f4, .string ⟨#[100, 101, 112, 116, 104]⟩, .int .i64 1, .int .i64 3, .slice none 0 0, .bool false, .bool f5] 146)) := hw7.then_alloc _
  have ac8 : Acc RQst 6 146 (fun k => k ≠ σ.b) w0.heap.size (w7.alloc (.cells #[.string ⟨#[115, 99, 111, 114, 101]⟩, .int .i64 1, .int .i64 z1, .slice none 0 0, .bool f1, .bool false, .string ⟨#[110, 111, 116, 101]⟩, .int .i64 3, .int .i64 z2, .slice none 0 0, .bool false, .bool f2, .string ⟨#[114, 97, 110, 107]⟩, .int .i64 2, .int .i64 0, .slice (some ⟨w4.heap.size, 0, none⟩) 3 3, .bool f3, .bool f4, .string ⟨#[100, 101, 112, 116, 104]⟩, .int .i64 1, .int .i64 3, .slice none 0 0, .bool false, .bool f5] 146)) (.slice (some ⟨w7.heap.size, 0, none⟩) 4 4) [⟨⟨#[115, 99, 111, 114, 101]⟩, 1, z1, [], f1, false⟩, ⟨⟨#[110, 111, 116, 101]⟩, 3, z2, [], false, f2⟩, ⟨⟨#[114, 97, 110, 107]⟩, 2, 0, [⟨#[121, 101, 115]⟩, ⟨#[110, 111]⟩, ⟨#[109, 97, 121, 98, 101]⟩], f3, f4⟩, ⟨⟨#[100, 101, 112, 116, 104]⟩, 1, 3, [], false, f5⟩] := by
    refine Acc.lit (sz := 6) (xs := [⟨⟨#[115, 99, 111, 114, 101]⟩, 1, z1, [], f1, false⟩, ⟨⟨#[110, 111, 116, 101]⟩, 3, z2, [], false, f2⟩, ⟨⟨#[114, 97, 110, 107]⟩, 2, 0, [⟨#[121, 101, 115]⟩, ⟨#[110, 111]⟩, ⟨#[109, 97, 121, 98, 101]⟩], f3, f4⟩, ⟨⟨#[100, 101, 112, 116, 104]⟩, 1, 3, [], false, f5⟩]) RQst.ok _ _ w7 [.string ⟨#[115, 99, 111, 114, 101]⟩, .int .i64 1, .int .i64 z1, .slice none 0 0, .bool f1, .bool false, .string ⟨#[110, 111, 116, 101]⟩, .int .i64 3, .int .i64 z2, .slice none 0 0, .bool false, .bool f2, .string ⟨#[114, 97, 110, 107]⟩, .int .i64 2, .int .i64 0, .slice (some ⟨w4.heap.size, 0, none⟩) 3 3, .bool f3, .bool f4, .string ⟨#[100, 101, 112, 116, 104]⟩, .int .i64 1, .int .i64 3, .slice none 0 0, .bool false, .bool f5] (by simp) hw7.size (by simp [maxLen]) (fun i hi => ?_)
    have h4 : i = 0 ∨ i = 1 ∨ i = 2 ∨ i = 3 := by simp at hi; omega
    rcases h4 with rfl | rfl | rfl | rfl
    · exact ⟨none, 0, rfl, Nat.le_refl _, ⟨by show 5 ≤ 1000000; decide, by show 0 ≤ 1000; decide⟩, Sl.nil _ _ _ _ _⟩
    · exact ⟨none, 0, rfl, Nat.le_refl _, ⟨by show 4 ≤ 1000000; decide, by show 0 ≤ 1000; decide⟩, Sl.nil _ _ _ _ _⟩
    · exact ⟨(some ⟨w4.heap.size, 0, none⟩), 3, rfl, Nat.le_refl _, ⟨by show 4 ≤ 1000000; decide, by show 3 ≤ 1000; decide⟩, Sl.lit_strs [⟨#[121, 101, 115]⟩, ⟨#[110, 111]⟩, ⟨#[109, 97, 121, 98, 101]⟩] sb7 rfl (by omega)⟩
    · exact ⟨none, 0, rfl, Nat.le_refl _, ⟨by show 5 ≤ 1000000; decide, by show 0 ≤ 1000; decide⟩, Sl.nil _ _ _ _ _⟩
  clear hs7 hw7 sb7
  obtain ⟨rb, hrb⟩ : ∃ b, b = w7.heap.size := ⟨_, rfl⟩
  have HRB := Lib.hid hrb
  rw [← hrb] at ac8
  clear hrb
  obtain ⟨n8, hnn⟩ : ∃ m, m = n7 := ⟨_, rfl⟩
  rw [← hnn] at hs8
  obtain ⟨ql, hql⟩ : ∃ l : List Qst, l = [⟨⟨#[115, 99, 111, 114, 101]⟩, 1, z1, [], f1, false⟩, ⟨⟨#[110, 111, 116, 101]⟩, 3, z2, [], false, f2⟩, ⟨⟨#[114, 97, 110, 107]⟩, 2, 0, [⟨#[121, 101, 115]⟩, ⟨#[110, 111]⟩, ⟨#[109, 97, 121, 98, 101]⟩], f3, f4⟩, ⟨⟨#[100, 101, 112, 116, 104]⟩, 1, 3, [], false, f5⟩] := ⟨_, rfl⟩
  have hqn : ql.length = 4 := by rw [hql]; rfl
  have hgood := Lib.hid (goodSheet z1 z2 f1 f2 f3 f4 f5 (by have := HZ1.out; simp only [List.mem_cons, List.not_mem_nil, or_false] at this; omega) (by have := HZ2.out; simp only [List.mem_cons, List.not_mem_nil, or_false] at this; omega))
  rw [← hql] at hgood
  rw [← hql] at ac8
  clear hql
  go_upto_region 2 with fail
  simp only [← HRB.out]
  generalize w7.alloc (.cells #[.string ⟨#[115, 99, 111, 114, 101]⟩, .int .i64 1, .int .i64 z1, .slice none 0 0, .bool f1, .bool false, .string ⟨#[110, 111, 116, 101]⟩, .int .i64 3, .int .i64 z2, .slice none 0 0, .bool false, .bool f2, .string ⟨#[114, 97, 110, 107]⟩, .int .i64 2, .int .i64 0, .slice (some ⟨w4.heap.size, 0, none⟩) 3 3, .bool f3, .bool f4, .string ⟨#[100, 101, 112, 116, 104]⟩, .int .i64 1, .int .i64 3, .slice none 0 0, .bool false, .bool f5] 146) = w8 at *
  have hl8 := hs8.lt
  go_wp2_with fail
  refine (pick_any σ n8 _ 5 5 [1, 2, 3, 4, 4] _ (hs8.keep (Kept.alloc _ _ _)) (by omega) (Sl.lit_ints _ (heap_at w8 _ _ rfl) rfl (by omega)) (by omega) (by omega)).mono ?_
  rintro e w9 ⟨v, n9, rfl, ⟨z, rfl, hz⟩, hA9, hB9, hs9, hb9⟩
  have ac9 := (ac8.keepAll RQst.ok (Kept.alloc _ _ _)).keep RQst.ok hb9 (fun _ h => h) (fun k hk => by have := (ac8.lt k hk).1; omega)
  have hw9 := (hw8.then_alloc _).trans hb9
  obtain ⟨d, hd1, hd2, hd3⟩ : ∃ d : Nat, z = (d : Int) ∧ 1 ≤ d ∧ d ≤ 4 := by
    simp only [List.mem_cons, List.not_mem_nil, or_false] at hz
    exact ⟨z.toNat, by omega, by omega, by omega⟩
  subst hd1
  have hd4 : (d : Int) ≤ 4 := by omega
  have hd5 : (0 : Int) ≤ (d : Int) := by omega
  have hfin := Lib.hid (show PSheetF σ w0.heap.size (.slice (some ⟨rb, 0, none⟩) d 4) w9 from ⟨ql.take d, fun q hq => hgood.out.1 q (List.mem_of_mem_take hq), Nat.le_trans (sheetL_take ql d) hgood.out.2, by rw [List.length_take]; omega, by rw [List.length_take]; omega, ac9.take (by omega)⟩)
  have hst := Lib.hid hs9
  have hbt := Lib.hid hw9
  clear ac8 ac9 hs8 hs9 hw8 hw9 hb9 hz
  go_wp2_with fail
  go_ret
  exact ⟨_, n9, rfl, hfin.out, by omega, by omega, hst.out, hbt.out⟩
theorem ext_size (s : ByteArray) (a b : Nat) : (s.extract a b).size ≤ s.size := by
  rw [ByteArray.size_extract]
  omega
set_option maxRecDepth 100000 in
set_option maxHeartbeats 6400000 in
theorem changed_any (σ : St) (n : Nat) (t wt : ByteArray) (w : World) (hs : Str σ w n) (hn : n ≤ 4611686018427300000) (ht : t.size ≤ 900000) (h1 : 0 < wt.size) (h2 : wt.size ≤ 100) :
    Calls Tryz.prog 47 #[.pointer (some ⟨σ.b, 0, none⟩), .string t, .string wt] w (StPost σ n 3 w (IsStr fun r => r.size ≤ t.size + 100)) := by
  have dw : (wt.toList == []) = false := by rw [beq_eq_false_iff_ne]; exact toList_ne (by omega)
  by_cases h0 : t.size = 0
  · have dt : (t.toList == []) = true := by rw [toList_nil h0]; rfl
    go_enter Tryz.func47, Tryz.ntmps47
    go_wp2_with fail
    go_ret
    exact ⟨_, n, rfl, ⟨wt, rfl, by omega⟩, Nat.le_refl _, by omega, hs, Kept.refl _ _⟩
  · have dt : (t.toList == []) = false := by rw [beq_eq_false_iff_ne]; exact toList_ne h0
    go_enter Tryz.func47, Tryz.ntmps47
    go_wp2_with fail
    refine (next_any σ n _ _ hs (by omega) (by omega) (by omega)).mono ?_
    rintro e w1 ⟨v, n1, rfl, ⟨i, rfl, hi1, hi2⟩, hm1, hm2, hs1, hb1⟩
    obtain ⟨i, rfl⟩ := Int.eq_ofNat_of_zero_le hi1
    go_wp2_with fail
    refine (next_any σ n1 _ _ hs1 (by omega) (by omega) (by omega)).mono ?_
    rintro e w2 ⟨v, n2, rfl, ⟨j, rfl, hj1, hj2⟩, hm3, hm4, hs2, hb2⟩
    obtain ⟨j, rfl⟩ := Int.eq_ofNat_of_zero_le hj1
    have hjw : j < wt.size := by omega
    have hit : i < t.size := by omega
    go_wp2_with fail
    refine (next_any σ n2 _ _ hs2 (by omega) (by omega) (by omega)).mono ?_
    rintro e w3 ⟨v, n3, rfl, ⟨z, rfl, hz1, hz2⟩, hm5, hm6, hs3, hb3⟩
    have hb13 := (hb1.trans hb2).trans hb3
    have hfin : n ≤ n3 ∧ n3 ≤ n + 3 := by omega
    have HS3 := Lib.hid hs3
    clear hs hs1 hs2 hs3 hb1 hb2 hb3 hm1 hm2 hm3 hm4 hm5 hm6 dt dw
    obtain ⟨cz, hcz⟩ : ∃ c, c = wt[j].toNat := ⟨_, rfl⟩
    have hcb : cz < 256 := by rw [hcz]; exact wt[j].toNat_lt
    rw [← hcz]
    clear hcz
    have f1 : IntKind.i64.wrap ((i : Int) + 1) = ((i + 1 : Nat) : Int) := by rw [IntWalk.i64_in _ (by omega)]; omega
    have f2 : (0 : Int) ≤ (i : Int) := by omega
    have f3 : (i : Int) ≤ (t.size : Int) := by omega
    have f4 : (0 : Int) ≤ ((i + 1 : Nat) : Int) := by omega
    have f5 : ((i + 1 : Nat) : Int) ≤ (t.size : Int) := by omega
    have hx1 := ext_size t 0 i
    have hx2 := ext_size t (i + 1) t.size
    have hx3 := ext_size t i t.size
    have hx4 : (t.extract 0 i).size = i := by rw [ByteArray.size_extract]; omega
    have hx5 : (t.extract (i + 1) t.size).size = t.size - (i + 1) := by rw [ByteArray.size_extract]; omega
    have hx6 : (t.extract i t.size).size = t.size - i := by rw [ByteArray.size_extract]; omega
    have f6 : IntKind.i32.wrap (cz : Int) = (cz : Int) := IntWalk.i32_in _ (by omega)
    have hez : (Utf8.encode (cz : Int)).size ≤ 4 := encode_size_le _
    have hcase : z = 0 ∨ z = 1 ∨ z = 2 := by omega
    rcases hcase with rfl | rfl | rfl
    · obtain ⟨t1, ht1, hzz1, g1⟩ := cat_runR Tryz.prog (t.extract 0 i) (Utf8.encode (cz : Int)) (by omega)
      obtain ⟨t2, ht2, hzz2, g2⟩ := cat_runR Tryz.prog t1 (t.extract (i + 1) t.size) (by omega)
      have hsz : t2.size ≤ t.size + 100 := by omega
      clear ht1 ht2 hzz1 hzz2 hez hx1 hx2 hx3 hx4 hx5 hx6
      go_wp2_with fail
      go_quiet (fail)
      go_wp2_with fail
      go_ret
      exact ⟨_, n3, rfl, ⟨t2, rfl, hsz⟩, hfin.1, hfin.2, HS3.out.keep (Kept.drewN _ _ _), hb13.then_drewN _⟩
    · obtain ⟨t1, ht1, hzz1, g1⟩ := cat_runR Tryz.prog (t.extract 0 i) (Utf8.encode (cz : Int)) (by omega)
      obtain ⟨t2, ht2, hzz2, g2⟩ := cat_runR Tryz.prog t1 (t.extract i t.size) (by omega)
      have hsz : t2.size ≤ t.size + 100 := by omega
      clear ht1 ht2 hzz1 hzz2 hez hx1 hx2 hx3 hx4 hx5 hx6
      go_wp2_with fail
      go_quiet (fail)
      go_wp2_with fail
      go_ret
      exact ⟨_, n3, rfl, ⟨t2, rfl, hsz⟩, hfin.1, hfin.2, HS3.out.keep (Kept.drewN _ _ _), hb13.then_drewN _⟩
    · obtain ⟨t2, ht2, hzz2, g2⟩ := cat_runR Tryz.prog (t.extract 0 i) (t.extract (i + 1) t.size) (by omega)
      have hsz : t2.size ≤ t.size + 100 := by omega
      clear ht2 hzz2 hez hx1 hx2 hx3 hx4 hx5 hx6
      go_wp2_with fail
      go_quiet (fail)
      go_wp2_with fail
      go_ret
      exact ⟨_, n3, rfl, ⟨t2, rfl, hsz⟩, hfin.1, hfin.2, HS3.out.keep (Kept.drewN _ _ _), hb13.then_drewN _⟩
end Go.Proofs.YtjbaijgdkkccbaaGreatDoor
