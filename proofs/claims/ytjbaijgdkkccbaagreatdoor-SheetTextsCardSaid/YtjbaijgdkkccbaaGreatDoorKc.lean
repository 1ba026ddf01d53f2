/- Index and Contains of strings. -/
import Derived.Test.YtjbaijgdkkccbaaGreatDoorKb
namespace Go.Proofs.YtjbaijgdkkccbaaGreatDoor
open Go.RowKit

set_option maxHeartbeats 800000 in
theorem index_any {F : Nat → Prop} (a : Option Addr) (len cap : Nat) (ss : List ByteArray) (x : ByteArray) (w : World) (hs : Sl RStr 1 F w a len ss) (hl : len ≤ 1000000) :
    Calls Tryz.prog 122 #[.slice a len cap, .string x] w fun e w' => e = .returned (.int .i64 (idxFrom x 0 ss)) ∧ w = w' := by
  have hlen := hs.len
  go_enter Tryz.func122, Tryz.ntmps122
  go_wp2
  go_loop [5, 8] (fun _ i => ∃ k : Nat, k ≤ len ∧ i = .int .i64 k ∧ x ∉ ss.take k) (fun _ i => len - (intOf i).toNat)
  case atStart => exact ⟨0, Nat.zero_le _, rfl, by simp⟩
  case round =>
    obtain ⟨k, hk, rfl, hnot⟩ := hrel
    by_cases hlt : k < len
    · obtain ⟨b, off, y, ha, _, hck, -, -, hsplit, htake⟩ := hs.atStr hlt
      have hltake : (ss.take k).length = k := by simp; omega
      have Hsplit := Lib.hid hsplit
      have Htake := Lib.hid htake
      have Hl := Lib.hid hltake
      clear hsplit htake hltake hlen
      subst ha
      clear hs
      by_cases hxy : x = y
      · have hfin : idxFrom x 0 ss = k := by rw [Hsplit.out, idxFrom_append hnot, Hl.out, idxFrom, if_pos hxy.symm]; simp
        have Hfin := Lib.hid hfin
        have he : (x.toList == y.toList) = true := by simp [hxy]
        clear hfin hxy
        go_wp2
        go_ret
        exact ⟨ret_int' Hfin.out.symm, rfl⟩
      · have he : (x.toList == y.toList) = false := by simp; exact fun e => hxy (bytes_ext e)
        go_wp2
        go_round
        case rel => exact ⟨k + 1, by omega, by go_num, by rw [Htake.out]; simp; exact ⟨hnot, hxy⟩⟩
        case measure => simp [intOf]; omega
    · have hd : decide ((k : Int) < (len : Int)) = false := by simp; omega
      have hfin : idxFrom x 0 ss = -1 := idxFrom_neg (by rw [List.take_of_length_le (by omega)] at hnot; exact hnot)
      have Hfin := Lib.hid hfin
      clear hfin
      go_wp2
      go_ret
      exact ⟨ret_int' Hfin.out.symm, rfl⟩

theorem contains_any {F : Nat → Prop} (a : Option Addr) (len cap : Nat) (ss : List ByteArray) (x : ByteArray) (w : World) (hs : Sl RStr 1 F w a len ss) (hl : len ≤ 1000000) :
    Calls Tryz.prog 67 #[.slice a len cap, .string x] w fun e w' => e = .returned (.bool (memB x ss)) ∧ w = w' := by
  by_cases hx : x ∈ ss
  · have h0 := idxFrom_nonneg (k := 0) hx
    rw [memB_true hx]
    go_enter Tryz.func67, Tryz.ntmps67
    go_wp2_with fail
    refine (index_any _ _ _ ss x _ hs hl).mono ?_
    rintro e w' ⟨rfl, rfl⟩
    go_wp2
    go_ret
    exact ⟨rfl, rfl⟩
  · have h0 := idxFrom_neg (k := 0) hx
    rw [memB_false hx]
    go_enter Tryz.func67, Tryz.ntmps67
    go_wp2_with fail
    refine (index_any _ _ _ ss x _ hs hl).mono ?_
    rintro e w' ⟨rfl, rfl⟩
    rw [h0]
    go_wp2
    go_ret
    exact ⟨rfl, rfl⟩
end Go.Proofs.YtjbaijgdkkccbaaGreatDoor
