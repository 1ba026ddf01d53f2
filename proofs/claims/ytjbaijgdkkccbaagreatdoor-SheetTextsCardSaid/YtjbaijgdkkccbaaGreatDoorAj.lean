/- asked: what ReadSheet answers at one line. -/
import Derived.Test.YtjbaijgdkkccbaaGreatDoorAc
import Derived.Test.YtjbaijgdkkccbaaGreatDoorSo
import Derived.Test.YtjbaijgdkkccbaaGreatDoorGa
import Derived.Lib.SmallJoins
namespace Go.Proofs.YtjbaijgdkkccbaaGreatDoor
open Go.RowKit

theorem countNL : Lib.countB ⟨#[115, 99, 111, 114, 101, 32, 97, 32, 53, 10]⟩ ⟨#[10]⟩ = 1 := by kernel_rfl
theorem splitNL : Lib.splitB ⟨#[10]⟩ 0 1 ⟨#[115, 99, 111, 114, 101, 32, 97, 32, 53, 10]⟩ = [⟨#[115, 99, 111, 114, 101, 32, 97, 32, 53]⟩, ⟨#[]⟩] := by kernel_rfl
theorem countSP : Lib.countB ⟨#[115, 99, 111, 114, 101, 32, 97, 32, 53]⟩ ⟨#[32]⟩ = 2 := by kernel_rfl
theorem splitSP : Lib.splitB ⟨#[32]⟩ 0 2 ⟨#[115, 99, 111, 114, 101, 32, 97, 32, 53]⟩ = [⟨#[115, 99, 111, 114, 101]⟩, ⟨#[97]⟩, ⟨#[53]⟩] := by kernel_rfl
theorem trim5 : (⟨(Lib.trimPrefix (⟨#[53]⟩ : ByteArray).data.toList (⟨#[45]⟩ : ByteArray).data.toList).toArray⟩ : ByteArray) = ⟨#[53]⟩ := by kernel_rfl
theorem atoi5 : Lib.atoi (⟨#[53]⟩ : ByteArray).data.toList = some 5 := by kernel_rfl
theorem All.bytesWorld (w : World) (e : TypeId) (s : ByteArray) : All w (Lib.bytesWorld w e s) :=
  ⟨rfl, rfl, rfl, by rw [Lib.bytesWorld_size]; omega, fun k hk _ => Lib.bytesWorld_at_old w e s k hk⟩

theorem lines_asked (w : World) (hg : Glob w) :
    Calls Tryz.prog 117 #[.string ⟨#[115, 99, 111, 114, 101, 32, 97, 32, 53, 10]⟩] w fun e w' => e = .returned (.tuple #[.slice (some ⟨w.heap.size, 0, none⟩) 1 2, .bool true]) ∧ w' = w.alloc (.cells #[.string ⟨#[115, 99, 111, 114, 101, 32, 97, 32, 53]⟩, .string ⟨#[]⟩] 9) := by
  obtain ⟨mx, hmx⟩ := hg.most
  have hsp := Lib.hid (Tryz.strings_Split ⟨#[115, 99, 111, 114, 101, 32, 97, 32, 53, 10]⟩ ⟨#[10]⟩ mx w (by decide) hmx (by decide))
  rw [countNL, splitNL] at hsp
  have hblk := heap_at w (.cells #[.string ⟨#[115, 99, 111, 114, 101, 32, 97, 32, 53]⟩, .string ⟨#[]⟩] 9) _ rfl
  have e1 := cell_at (i := 1) hblk rfl
  clear hmx hblk
  go_enter Tryz.func117, Tryz.ntmps117
  go_wp2_with fail
  refine hsp.out.mono ?_
  rintro e w2 ⟨rfl, rfl⟩
  go_wp2_with fail
  go_ret2
  exact ⟨rfl, rfl⟩

theorem words_asked (w : World) (hg : Glob w) :
    Calls Tryz.prog 184 #[.string ⟨#[115, 99, 111, 114, 101, 32, 97, 32, 53]⟩] w fun e w' => e = .returned (.tuple #[.slice (some ⟨w.heap.size, 0, none⟩) 3 3, .bool true]) ∧ w' = w.alloc (.cells #[.string ⟨#[115, 99, 111, 114, 101]⟩, .string ⟨#[97]⟩, .string ⟨#[53]⟩] 9) := by
  obtain ⟨mx, hmx⟩ := hg.most
  have hsp := Lib.hid (Tryz.strings_Split ⟨#[115, 99, 111, 114, 101, 32, 97, 32, 53]⟩ ⟨#[32]⟩ mx w (by decide) hmx (by decide))
  rw [countSP, splitSP] at hsp
  have hblk := heap_at w (.cells #[.string ⟨#[115, 99, 111, 114, 101]⟩, .string ⟨#[97]⟩, .string ⟨#[53]⟩] 9) _ rfl
  have hc := Lib.hid (contains_any (some ⟨w.heap.size, 0, none⟩) 3 3 [⟨#[115, 99, 111, 114, 101]⟩, ⟨#[97]⟩, ⟨#[53]⟩] ⟨#[]⟩ (w.alloc (.cells #[.string ⟨#[115, 99, 111, 114, 101]⟩, .string ⟨#[97]⟩, .string ⟨#[53]⟩] 9)) (Sl.lit_strs (F := fun _ => True) _ hblk rfl trivial) (by decide))
  have hm : memB ⟨#[]⟩ [⟨#[115, 99, 111, 114, 101]⟩, ⟨#[97]⟩, ⟨#[53]⟩] = false := memB_false (by intro h; simp at h)
  clear hmx hblk
  go_enter Tryz.func184, Tryz.ntmps184
  go_wp2_with fail
  refine hsp.out.mono ?_
  rintro e w2 ⟨rfl, rfl⟩
  go_wp2_with fail
  refine hc.out.mono ?_
  rintro e w3 ⟨rfl, hh⟩
  subst hh
  rw [hm]
  go_wp2_with fail
  go_ret2
  exact ⟨rfl, rfl⟩

theorem take_asked (p : ByteArray) (kp b : Nat) (w : World) (hk : w.cell? ⟨kp, 0, none⟩ = some (.slice (some ⟨b, 0, none⟩) 3 3)) (hb : w.cell? ⟨b, 0, none⟩ = some (.string ⟨#[115, 99, 111, 114, 101]⟩)) (hp : (⟨#[115, 99, 111, 114, 101]⟩ : ByteArray) ≠ p) :
    Calls Tryz.prog 185 #[.string p, .pointer (some ⟨kp, 0, none⟩)] w fun e w' => e = .returned (.bool false) ∧ w = w' := by
  have hd0 : (⟨#[115, 99, 111, 114, 101]⟩ : ByteArray).toList ≠ p.toList := fun e => hp (bytes_ext e)
  have hd : (([115, 99, 111, 114, 101] : List UInt8) == p.toList) = false := by rw [beq_eq_false_iff_ne]; simpa using hd0
  clear hd0 hp
  go_enter Tryz.func185, Tryz.ntmps185
  go_wp2_with fail
  go_ret
  exact ⟨rfl, rfl⟩

theorem kindOf_asked (w : World) : Calls Tryz.prog 186 #[.string ⟨#[115, 99, 111, 114, 101]⟩] w fun e w' => e = .returned (.int .i64 1) ∧ All w w' := by
  have hk : Calls Tryz.prog 112 #[] w fun e w' => e = .returned (.slice (some ⟨w.heap.size, 0, none⟩) 4 4) ∧ w' = w.alloc (.cells #[.string ⟨#[]⟩, .string ⟨#[115, 99, 111, 114, 101]⟩, .string ⟨#[99, 104, 111, 105, 99, 101]⟩, .string ⟨#[119, 111, 114, 100, 115]⟩] 9) := by
    go_enter Tryz.func112, Tryz.ntmps112
    go_wp2_with fail
    go_ret
    exact ⟨rfl, rfl⟩
  have HK := Lib.hid hk
  have hall : All w (w.alloc (.cells #[.string ⟨#[]⟩, .string ⟨#[115, 99, 111, 114, 101]⟩, .string ⟨#[99, 104, 111, 105, 99, 101]⟩, .string ⟨#[119, 111, 114, 100, 115]⟩] 9)) := Kept.alloc _ _ _
  have hblk := heap_at w (.cells #[.string ⟨#[]⟩, .string ⟨#[115, 99, 111, 114, 101]⟩, .string ⟨#[99, 104, 111, 105, 99, 101]⟩, .string ⟨#[119, 111, 114, 100, 115]⟩] 9) _ rfl
  have c0 := cell_at (i := 0) hblk rfl
  have c1 := cell_at (i := 1) hblk rfl
  clear hk hblk
  go_enter Tryz.func186, Tryz.ntmps186
  go_wp2_with fail
  refine HK.out.mono ?_
  rintro e w2 ⟨rfl, rfl⟩
  go_wp2_with fail
  go_loopw [7] (fun i wr => ∃ k : Nat, k ≤ 1 ∧ i = .int .i64 k ∧ wr = w.alloc (.cells #[.string ⟨#[]⟩, .string ⟨#[115, 99, 111, 114, 101]⟩, .string ⟨#[99, 104, 111, 105, 99, 101]⟩, .string ⟨#[119, 111, 114, 100, 115]⟩] 9)) (fun i _ => 4 - (intOf i).toNat)
  case atStart => exact ⟨0, Nat.zero_le _, rfl, rfl⟩
  case round =>
    obtain ⟨k, hk, rfl, rfl⟩ := hrel
    have hk2 : k = 0 ∨ k = 1 := by omega
    rcases hk2 with rfl | rfl
    · go_wp2_with fail
      go_roundw
      case rel => exact ⟨1, by omega, by go_num, by first | rfl | trivial⟩
      case measure => simp [intOf]
    · go_wp2_with fail
      go_ret
      exact ⟨rfl, hall⟩

theorem number_asked (w : World) : Calls Tryz.prog 254 #[.string ⟨#[53]⟩, .int .i64 9] w fun e w' => e = .returned (.tuple #[.int .i64 5, .bool true]) ∧ All w w' := by
  have ht := Lib.hid (Tryz.strings_TrimPrefix ⟨#[53]⟩ ⟨#[45]⟩ w)
  rw [trim5] at ht
  have ha := Lib.hid (fun (wx : World) => Tryz.strconv_Atoi ⟨#[53]⟩ 5 (by decide) atoi5 wx)
  have hb : (⟨#[53]⟩ : ByteArray)[0] = 53 := rfl
  go_enter Tryz.func254, Tryz.ntmps254
  go_wp2_with fail
  refine ht.out.mono ?_
  rintro e w2 ⟨rfl, rfl⟩
  go_wp2_with fail
  go_loopw [7] (fun i wr => ∃ k : Nat, k ≤ 1 ∧ i = .int .i64 k ∧ wr = w2) (fun i _ => 1 - (intOf i).toNat)
  case atStart => exact ⟨0, Nat.zero_le _, rfl, rfl⟩
  case round =>
    obtain ⟨k, hk, rfl, rfl⟩ := hrel
    have hk2 : k = 0 ∨ k = 1 := by omega
    rcases hk2 with rfl | rfl
    · go_wp2_with fail
      go_roundw
      case rel => exact ⟨1, by omega, by go_num, by first | rfl | trivial⟩
      case measure => simp [intOf]
    · go_wp2_with fail
      refine (ha.out _).mono ?_
      rintro e w3 ⟨rfl, t, rfl⟩
      go_wp2_with fail
      go_quiet (fail)
      go_wp2_with fail
      go_ret2
      exact ⟨rfl, (All.bytesWorld _ _ _).then_drewN _⟩

theorem small_asked (w : World) : Calls Tryz.prog 187 #[.string ⟨#[53]⟩] w fun e w' => e = .returned (.tuple #[.int .i64 5, .bool true]) ∧ All w w' := by
  have HN := Lib.hid (number_asked w)
  go_enter Tryz.func187, Tryz.ntmps187
  go_wp2_with fail
  refine HN.out.mono ?_
  rintro e w2 ⟨rfl, hw2⟩
  go_wp2_with fail
  go_ret2
  exact ⟨rfl, hw2⟩

set_option maxRecDepth 100000 in
set_option maxHeartbeats 3200000 in
theorem readQuestion_asked (w : World) (hg : Glob w) :
    Calls Tryz.prog 118 #[.string ⟨#[115, 99, 111, 114, 101, 32, 97, 32, 53]⟩] w fun e w' => e = .returned (.tuple #[.agg #[.string ⟨#[97]⟩, .int .i64 1, .int .i64 5, .slice none 0 0, .bool false, .bool false], .bool true]) ∧ All w w' := by
  have HW := Lib.hid (words_asked (w.alloc (.cells #[.string ⟨#[]⟩, .int .i64 0, .int .i64 0, .slice none 0 0, .bool false, .bool false] 146)) (hg.keep (Kept.alloc _ _ _)))
  have hr := heap_old (.cells #[.string ⟨#[]⟩, .int .i64 0, .int .i64 0, .slice none 0 0, .bool false, .bool false] 146) (heap_old (.cells #[.slice (some ⟨w.heap.size + 1, 0, none⟩) 3 3] 29) (heap_old (.cells #[.string ⟨#[115, 99, 111, 114, 101]⟩, .string ⟨#[97]⟩, .string ⟨#[53]⟩] 9) (heap_at w (.cells #[.string ⟨#[]⟩, .int .i64 0, .int .i64 0, .slice none 0 0, .bool false, .bool false] 146) _ rfl)))
  have hb := heap_old (.cells #[.string ⟨#[]⟩, .int .i64 0, .int .i64 0, .slice none 0 0, .bool false, .bool false] 146) (heap_old (.cells #[.slice (some ⟨w.heap.size + 1, 0, none⟩) 3 3] 29) (heap_at (w.alloc (.cells #[.string ⟨#[]⟩, .int .i64 0, .int .i64 0, .slice none 0 0, .bool false, .bool false] 146)) (.cells #[.string ⟨#[115, 99, 111, 114, 101]⟩, .string ⟨#[97]⟩, .string ⟨#[53]⟩] 9) (w.heap.size + 1) (by simp)))
  have hk := heap_old (.cells #[.string ⟨#[]⟩, .int .i64 0, .int .i64 0, .slice none 0 0, .bool false, .bool false] 146) (heap_at ((w.alloc (.cells #[.string ⟨#[]⟩, .int .i64 0, .int .i64 0, .slice none 0 0, .bool false, .bool false] 146)).alloc (.cells #[.string ⟨#[115, 99, 111, 114, 101]⟩, .string ⟨#[97]⟩, .string ⟨#[53]⟩] 9)) (.cells #[.slice (some ⟨w.heap.size + 1, 0, none⟩) 3 3] 29) (w.heap.size + 2) (by simp))
  have hq := heap_at (((w.alloc (.cells #[.string ⟨#[]⟩, .int .i64 0, .int .i64 0, .slice none 0 0, .bool false, .bool false] 146)).alloc (.cells #[.string ⟨#[115, 99, 111, 114, 101]⟩, .string ⟨#[97]⟩, .string ⟨#[53]⟩] 9)).alloc (.cells #[.slice (some ⟨w.heap.size + 1, 0, none⟩) 3 3] 29)) (.cells #[.string ⟨#[]⟩, .int .i64 0, .int .i64 0, .slice none 0 0, .bool false, .bool false] 146) (w.heap.size + 3) (by simp)
  have b0 := cell_at (i := 0) hb rfl
  have b1 := cell_at (i := 1) hb rfl
  have k0 := cell_at (i := 0) hk rfl
  have hw4 : All w ((((w.alloc (.cells #[.string ⟨#[]⟩, .int .i64 0, .int .i64 0, .slice none 0 0, .bool false, .bool false] 146)).alloc (.cells #[.string ⟨#[115, 99, 111, 114, 101]⟩, .string ⟨#[97]⟩, .string ⟨#[53]⟩] 9)).alloc (.cells #[.slice (some ⟨w.heap.size + 1, 0, none⟩) 3 3] 29)).alloc (.cells #[.string ⟨#[]⟩, .int .i64 0, .int .i64 0, .slice none 0 0, .bool false, .bool false] 146)) := ((((Kept.alloc _ _ _).then_alloc _).then_alloc _).then_alloc _)
  have T1 := Lib.hid (take_asked ⟨#[110, 101, 101, 100, 101, 100]⟩ (w.heap.size + 2) (w.heap.size + 1) _ k0 b0 (by simp))
  have T2 := Lib.hid (take_asked ⟨#[115, 101, 99, 114, 101, 116]⟩ (w.heap.size + 2) (w.heap.size + 1) _ k0 b0 (by simp))
  have eg : ∀ args w, (callFunc 185 args).run Tryz.prog w = .ok (.enter 185 args) w := enters_of Tryz.func185 (by kernel_rfl) rfl
  have hmf' := hmfC
  go_enter Tryz.func118, Tryz.ntmps118
  go_wp2_with fail
  refine HW.out.mono ?_
  rintro e w2 ⟨rfl, rfl⟩
  go_wp2_with fail
  refine T1.out.mono ?_
  rintro e w5 ⟨rfl, hh⟩
  subst hh
  go_wp2_with fail
  refine T2.out.mono ?_
  rintro e w5 ⟨rfl, hh⟩
  subst hh
  go_upto_region 8 with fail
  go_cut [] (fun wx => wx.heap[w.heap.size + 3]? = some (.cells #[.string ⟨#[97]⟩, .int .i64 1, .int .i64 0, .slice none 0 0, .bool false, .bool false] 146 (0, 0)) ∧ wx.heap[w.heap.size + 2]? = some (.cells #[.slice (some ⟨w.heap.size + 1, 0, none⟩) 3 3] 29) ∧ wx.heap[w.heap.size + 1]? = some (.cells #[.string ⟨#[115, 99, 111, 114, 101]⟩, .string ⟨#[97]⟩, .string ⟨#[53]⟩] 9) ∧ wx.heap[w.heap.size]? = some (.cells #[.string ⟨#[]⟩, .int .i64 0, .int .i64 0, .slice none 0 0, .bool false, .bool false] 146) ∧ All w wx)
  case first =>
    clear hmf' eg T1 T2 HW
    go_region_held3 (fun w' => w'.cell? ⟨w.heap.size + 2, 0, none⟩ = some (.slice (some ⟨w.heap.size + 1, 0, none⟩) 3 3) ∧ w'.cell? ⟨w.heap.size + 1, 0, none⟩ = some (.string ⟨#[115, 99, 111, 114, 101]⟩) ∧ w'.cell? ⟨w.heap.size + 1, 1, none⟩ = some (.string ⟨#[97]⟩)) (first | exact ⟨k0, b0, b1⟩ | exact ⟨d0, d1, d2⟩ | exact ⟨(Kept.setCell (F := (fun k => k ≠ w.heap.size + 3)) _ _ _ (fun h => h rfl)).cell k0 (by dsimp only; omega), (Kept.setCell (F := (fun k => k ≠ w.heap.size + 3)) _ _ _ (fun h => h rfl)).cell b0 (by dsimp only; omega), (Kept.setCell (F := (fun k => k ≠ w.heap.size + 3)) _ _ _ (fun h => h rfl)).cell b1 (by dsimp only; omega)⟩ | exact ⟨(Kept.setCell (F := (fun k => k ≠ w.heap.size + 3)) _ _ _ (fun h => h rfl)).cell d0 (by dsimp only; omega), (Kept.setCell (F := (fun k => k ≠ w.heap.size + 3)) _ _ _ (fun h => h rfl)).cell d1 (by dsimp only; omega), (Kept.setCell (F := (fun k => k ≠ w.heap.size + 3)) _ _ _ (fun h => h rfl)).cell d2 (by dsimp only; omega)⟩ | exact ⟨(Kept.setCell (F := (fun k => k ≠ w.heap.size + 3)) _ _ _ (fun h => h rfl)).cell ((Kept.setCell (F := (fun k => k ≠ w.heap.size + 3)) _ _ _ (fun h => h rfl)).cell d0 (by dsimp only; omega)) (by dsimp only; omega), (Kept.setCell (F := (fun k => k ≠ w.heap.size + 3)) _ _ _ (fun h => h rfl)).cell ((Kept.setCell (F := (fun k => k ≠ w.heap.size + 3)) _ _ _ (fun h => h rfl)).cell d1 (by dsimp only; omega)) (by dsimp only; omega), (Kept.setCell (F := (fun k => k ≠ w.heap.size + 3)) _ _ _ (fun h => h rfl)).cell ((Kept.setCell (F := (fun k => k ≠ w.heap.size + 3)) _ _ _ (fun h => h rfl)).cell d2 (by dsimp only; omega)) (by dsimp only; omega)⟩ | go_keep) (first | (go_at_call 186; refine (kindOf_asked _).mono ?_; rintro e w5 ⟨rfl, hw5⟩; have hp1 : All ((((w.alloc (.cells #[.string ⟨#[]⟩, .int .i64 0, .int .i64 0, .slice none 0 0, .bool false, .bool false] 146)).alloc (.cells #[.string ⟨#[115, 99, 111, 114, 101]⟩, .string ⟨#[97]⟩, .string ⟨#[53]⟩] 9)).alloc (.cells #[.slice (some ⟨w.heap.size + 1, 0, none⟩) 3 3] 29)).alloc (.cells #[.string ⟨#[]⟩, .int .i64 0, .int .i64 0, .slice none 0 0, .bool false, .bool false] 146)) w5 := Kept.trans (by repeat (first | exact Kept.refl _ _ | refine Kept.then_drew ?_ | refine Kept.then_drewN ?_ _ | refine Kept.then_alloc ?_ _)) hw5; have d0 := hp1.cell k0 trivial; have d1 := hp1.cell b0 trivial; have d2 := hp1.cell b1 trivial; have hq5 := hp1.heap hq trivial; have f0 := frozen_at (i := 0) hq5; have f1 := frozen_at (i := 1) hq5; have q0 := cell_at (i := 0) hq5 rfl; have q1 := cell_at (i := 1) hq5 rfl))
    have bkf := (heap_setCell_at _ (w.heap.size + 3) 0 (.string ⟨#[97]⟩) _ _ _ (heap_setCell_at _ (w.heap.size + 3) 1 (.int .i64 1) _ _ _ hq5))
    simp only [List.setIfInBounds_toArray, List.set_cons_zero, List.set_cons_succ] at bkf
    have hr5 := hp1.heap hr trivial
    have hb5 := hp1.heap hb trivial
    have hk5 := hp1.heap hk trivial
    have kk : Kept (fun k => k ≠ w.heap.size + 3) w5 _ := ((Kept.refl _ w5).then_setCell ⟨w.heap.size + 3, 1, none⟩ (.int .i64 1) (by simp)).then_setCell ⟨w.heap.size + 3, 0, none⟩ (.string ⟨#[97]⟩) (by simp)
    have kw : All w _ := ((hw4.trans hp1).then_setNew ⟨w.heap.size + 3, 1, none⟩ (.int .i64 1) (by dsimp only; omega)).then_setNew ⟨w.heap.size + 3, 0, none⟩ (.string ⟨#[97]⟩) (by dsimp only; omega)
    go_wp2_with fail
    go_meet
    exact ⟨bkf, kk.heap hk5 (by omega), kk.heap hb5 (by omega), kk.heap hr5 (by omega), kw⟩
  case rest =>
    obtain ⟨hqx, hkx, hbx, hrx, hwx⟩ := hcut
    obtain ⟨wx, rfl⟩ : ∃ x : World, x = wc := ⟨_, rfl⟩
    have HS := Lib.hid (small_asked wx)
    have k0' := cell_at (i := 0) hkx rfl
    have b2 := cell_at (i := 2) hbx rfl
    have q1 := cell_at (i := 1) hqx rfl
    clear hr hb hk hq b0 b1 k0 hw4 T1 T2 HW eg hmf' hg
    go_wp2_with fail
    refine HS.out.mono ?_
    rintro e w7 ⟨rfl, hw7⟩
    have hq7 := hw7.heap hqx trivial
    have hr7 := hw7.heap hrx trivial
    have c2 := cell_at (i := 2) hq7 rfl
    have f2 := frozen_at (i := 2) hq7
    have hq8 := (heap_setCell_at _ (w.heap.size + 3) 2 (.int .i64 5) _ _ _ hq7)
    simp only [List.setIfInBounds_toArray, List.set_cons_zero, List.set_cons_succ] at hq8
    have hr8 := (Kept.setCell (F := fun k => k ≠ w.heap.size + 3) w7 ⟨w.heap.size + 3, 2, none⟩ (.int .i64 5) (fun h => h rfl)).heap hr7 (by omega)
    have s0 := cell_at (i := 0) hq8 rfl
    have t0 := cell_at (i := 0) hr8 rfl
    have u0 := frozen_at (i := 0) hr8
    have s1 := cell_at (i := 1) hq8 rfl
    have t1 := cell_at (i := 1) hr8 rfl
    have u1 := frozen_at (i := 1) hr8
    have s2 := cell_at (i := 2) hq8 rfl
    have t2 := cell_at (i := 2) hr8 rfl
    have u2 := frozen_at (i := 2) hr8
    have s3 := cell_at (i := 3) hq8 rfl
    have t3 := cell_at (i := 3) hr8 rfl
    have u3 := frozen_at (i := 3) hr8
    have s4 := cell_at (i := 4) hq8 rfl
    have t4 := cell_at (i := 4) hr8 rfl
    have u4 := frozen_at (i := 4) hr8
    have s5 := cell_at (i := 5) hq8 rfl
    have t5 := cell_at (i := 5) hr8 rfl
    have u5 := frozen_at (i := 5) hr8
    have hr9 := (heap_setCell_at _ (w.heap.size) 5 (.bool false) _ _ _ (heap_setCell_at _ (w.heap.size) 4 (.bool false) _ _ _ (heap_setCell_at _ (w.heap.size) 3 (.slice none 0 0) _ _ _ (heap_setCell_at _ (w.heap.size) 2 (.int .i64 5) _ _ _ (heap_setCell_at _ (w.heap.size) 1 (.int .i64 1) _ _ _ (heap_setCell_at _ (w.heap.size) 0 (.string ⟨#[97]⟩) _ _ _ hr8))))))
    simp only [List.setIfInBounds_toArray, List.set_cons_zero, List.set_cons_succ] at hr9
    have v0 := cell_at (i := 0) hr9 rfl
    have v1 := cell_at (i := 1) hr9 rfl
    have v2 := cell_at (i := 2) hr9 rfl
    have v3 := cell_at (i := 3) hr9 rfl
    have v4 := cell_at (i := 4) hr9 rfl
    have v5 := cell_at (i := 5) hr9 rfl
    have hall := Lib.hid ((((((((hwx.trans hw7).then_setNew ⟨w.heap.size + 3, 2, none⟩ (.int .i64 5) (by dsimp only; omega)).then_setNew ⟨w.heap.size, 0, none⟩ (.string ⟨#[97]⟩) (Nat.le_refl _)).then_setNew ⟨w.heap.size, 1, none⟩ (.int .i64 1) (Nat.le_refl _)).then_setNew ⟨w.heap.size, 2, none⟩ (.int .i64 5) (Nat.le_refl _)).then_setNew ⟨w.heap.size, 3, none⟩ (.slice none 0 0) (Nat.le_refl _)).then_setNew ⟨w.heap.size, 4, none⟩ (.bool false) (Nat.le_refl _)).then_setNew ⟨w.heap.size, 5, none⟩ (.bool false) (Nat.le_refl _))
    clear hq7 hr7 hq8 hr8 hr9 hqx hkx hbx hrx hwx hw7 q1 b2 k0'
    go_wp2_with fail
    refine bodyPost_ret (v := .tuple #[.agg #[.string ⟨#[97]⟩, .int .i64 1, .int .i64 5, .slice none 0 0, .bool false, .bool false], .bool true]) ?_ rfl ⟨rfl, hall.out⟩
    simp [results, Tryz.results118, go_sem, v0, v1, v2, v3, v4, v5]

theorem isKey_a' : isKeyB ⟨#[97]⟩ = true := isKeyB_true ⟨fun i h _ => by
  have h0 : i = 0 := by have : (⟨#[97]⟩ : ByteArray).size = 1 := rfl; omega
  subst h0
  exact Or.inl ⟨show (97 : Int) ≤ 97 by decide, show (97 : Int) ≤ 122 by decide⟩, by decide, by decide⟩
theorem sheetF_asked : sheetF [(⟨⟨#[97]⟩, 1, 5, [], false, false⟩ : Qst)] = 0 := by
  rw [sheetF_some (by simp) (by simp), sheetG_cons, if_neg (by rw [isKey_a']; decide)]
  have hf : findG (isQ ⟨#[97]⟩) 0 [(⟨⟨#[97]⟩, 1, 5, [], false, false⟩ : Qst)] = 0 := by rw [findG, if_pos (by simp [isQ])]; rfl
  rw [hf, if_neg (by simp)]
  have hq : questF (⟨⟨#[97]⟩, 1, 5, [], false, false⟩ : Qst) = 0 := by
    rw [questF, if_neg (by simp), if_neg (by simp), if_neg (by simp), if_neg (by simp)]; rfl
  rw [hq, if_neg (by simp)]; rfl

set_option maxRecDepth 100000 in
set_option maxHeartbeats 3200000 in
theorem readSheet_asked (w : World) (hg : Glob w) :
    Calls Tryz.prog 48 #[.string ⟨#[115, 99, 111, 114, 101, 32, 97, 32, 53, 10]⟩] w fun e w' => (∃ p c, e = .returned (.tuple #[.slice p 1 c, .int .i64 0, .int .i64 0])) ∧ All w w' := by
  have HL := Lib.hid (lines_asked w hg)
  have hw1 : All w (w.alloc (.cells #[.string ⟨#[115, 99, 111, 114, 101, 32, 97, 32, 53]⟩, .string ⟨#[]⟩] 9)) := Kept.alloc _ _ _
  have hblk := heap_at w (.cells #[.string ⟨#[115, 99, 111, 114, 101, 32, 97, 32, 53]⟩, .string ⟨#[]⟩] 9) _ rfl
  have HQ := Lib.hid (fun (wx : World) (k : All (w.alloc (.cells #[.string ⟨#[115, 99, 111, 114, 101, 32, 97, 32, 53]⟩, .string ⟨#[]⟩] 9)) wx) => readQuestion_asked wx (hg.keep (hw1.trans k)))
  clear hg
  go_enter Tryz.func48, Tryz.ntmps48
  go_wp2_with fail
  refine HL.out.mono ?_
  rintro e w2 ⟨rfl, rfl⟩
  go_wp2_with fail
  go_loopw [7, 23] (fun o i wr => ∃ k : Nat, k ≤ 1 ∧ i = .int .i64 k ∧ Acc RQst 6 146 (fun _ => False) (w.heap.size + 1) wr o (List.replicate k (⟨⟨#[97]⟩, 1, 5, [], false, false⟩ : Qst)) ∧ All (w.alloc (.cells #[.string ⟨#[115, 99, 111, 114, 101, 32, 97, 32, 53]⟩, .string ⟨#[]⟩] 9)) wr) (fun _ i _ => 1 - (intOf i).toNat)
  case atStart => exact ⟨0, Nat.zero_le _, rfl, Acc.nil _ _ _ _ _ _, Kept.refl _ _⟩
  case round =>
    obtain ⟨k, hk, rfl, hacc, hwr⟩ := hrel
    obtain ⟨wo, rfl⟩ : ∃ wo : World, wo = wr := ⟨_, rfl⟩
    have hk2 : k = 0 ∨ k = 1 := by omega
    clear hk
    rcases hk2 with rfl | rfl
    · obtain ⟨av, cv, rfl, -⟩ := hacc.form
      have hb := hwr.heap hblk trivial
      have b0 := cell_at (i := 0) hb rfl
      have hwo : w.heap.size + 1 ≤ wo.heap.size := by have := hwr.size; simpa using this
      clear hblk hb HL hw1
      go_wp2_with fail
      refine (HQ.out _ hwr).mono ?_
      rintro e w3 ⟨rfl, hw3⟩
      have hacc3 := hacc.keepAll RQst.ok hw3
      have hwb := hwr.trans hw3
      have hws := hw3.size
      clear hacc hwr hw3 HQ
      go_wp2_with (at_builtin; refine wp_append1 RQst.ok _ rfl _ _ 26 rfl (w.heap.size + 1) 146 (.agg #[.string ⟨#[]⟩, .int .i64 0, .int .i64 0, .slice none 0 0, .bool false, .bool false]) 6 64 Tryz.underlying26 (by kernel_rfl) rfl (by decide) (fun _ => False) _ [] rfl ((hacc3.keepAll RQst.ok (Kept.alloc _ _ _)).keepAll RQst.ok (Kept.alloc _ _ _)) ⟨_, 0, none⟩ 1 [.string ⟨#[97]⟩, .int .i64 1, .int .i64 5, .slice none 0 0, .bool false, .bool false] rfl rfl (World.news_of_block (cs := #[.string ⟨#[97]⟩, .int .i64 1, .int .i64 5, .slice none 0 0, .bool false, .bool false]) (heap_at (w3.alloc (.cells #[.string ⟨#[97]⟩, .int .i64 1, .int .i64 5, .slice none 0 0, .bool false, .bool false] 146)) _ _ (by simp))) (by simp [Value.oneCell']) (⟨⟨#[97]⟩, 1, 5, [], false, false⟩ : Qst) ⟨none, 0, rfl, Nat.le_refl _, ⟨by decide, by decide⟩, Sl.nil _ _ _ _ _⟩ (by simp) (by decide) (by simp; omega) ?_)
      intro p' c' w9 hacc9 hg9 _
      have hk9 : All (w.alloc (.cells #[.string ⟨#[115, 99, 111, 114, 101, 32, 97, 32, 53]⟩, .string ⟨#[]⟩] 9)) w9 := ((hwb.then_alloc _).then_alloc _).grown hg9 (fun j hj => Or.inl (by have := (hacc3.lt j hj).1; simpa using this))
      go_wp2_with fail
      go_roundw
      case rel => exact ⟨1, by omega, by go_num, hacc9, hk9⟩
      case measure => simp [intOf]
    · obtain ⟨av, cv, hv, hsl⟩ := hacc.sl RQst.ok (by decide) (G := fun _ => True) (fun _ h => h.elim) (fun _ _ => trivial)
      have hv1 : (List.replicate 1 (⟨⟨#[97]⟩, 1, 5, [], false, false⟩ : Qst)).length = 1 := rfl
      rw [hv1] at hv hsl
      subst hv
      have HC := Lib.hid (checkSheet_any av 1 cv [(⟨⟨#[97]⟩, 1, 5, [], false, false⟩ : Qst)] wo hsl (by decide))
      rw [sheetF_asked] at HC
      have hwo := hw1.trans hwr
      clear hacc hsl hwr hw1 HL HQ hblk hv1
      go_wp2_with fail
      refine HC.out.mono ?_
      rintro e w3 ⟨rfl, hw3⟩
      go_wp2_with fail
      go_ret3
      exact ⟨⟨av, cv, rfl⟩, hwo.trans hw3⟩

theorem asked_any (w : World) (hg : Glob w) : Calls Tryz.prog 23 #[] w fun e w' => e = .returned (.bool true) ∧ All w w' := by
  have HR := Lib.hid (readSheet_asked w hg)
  clear hg
  go_enter Tryz.func23, Tryz.ntmps23
  go_wp2_with fail
  refine HR.out.mono ?_
  rintro e w2 ⟨⟨p, c, rfl⟩, hw2⟩
  go_wp2_with fail
  go_ret
  exact ⟨rfl, hw2⟩
end Go.Proofs.YtjbaijgdkkccbaaGreatDoor
