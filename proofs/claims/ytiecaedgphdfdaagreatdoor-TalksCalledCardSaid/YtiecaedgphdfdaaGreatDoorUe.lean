/- talkFault, TalkRulesFault; namesFault, NamesFault. -/
import Derived.Test.YtiecaedgphdfdaaGreatDoorUd
import Derived.Test.YtiecaedgphdfdaaGreatDoorRb
namespace Go.Proofs.YtiecaedgphdfdaaGreatDoor
open Go.RowKit

set_option maxHeartbeats 1600000 in
theorem talkFault_any (sp fr til few : Int) (re : Bool) (w : World) : Calls Tryz.prog 82 #[.agg #[.int .i64 sp, .int .i64 fr, .int .i64 til, .int .i64 few, .bool re]] w fun e w' => e = .returned (.int .i64 (talkF ⟨sp, fr, til, few, re⟩)) ∧ All w w' := by
  have hk1 : All w (w.alloc (.cells #[.int .i64 sp, .int .i64 fr, .int .i64 til, .int .i64 few, .bool re] 68)) := Kept.alloc _ _ _
  have hrb := heap_at w (.cells #[.int .i64 sp, .int .i64 fr, .int .i64 til, .int .i64 few, .bool re] 68) _ rfl
  have r0 := cell_at (i := 0) hrb rfl
  have r1 := cell_at (i := 1) hrb rfl
  have r2 := cell_at (i := 2) hrb rfl
  have r3 := cell_at (i := 3) hrb rfl
  have r4 := cell_at (i := 4) hrb rfl
  clear hrb
  by_cases h1 : sp < 0 ∨ 10 < sp
  · have HF := Lib.hid (show talkF ⟨sp, fr, til, few, re⟩ = 1 from by unfold talkF; dsimp only; rw [if_pos h1])
    go_enter Tryz.func82, Tryz.ntmps82
    go_wp2_with fail
    refine (outside_any _ _ _ _).mono ?_
    rintro e w' ⟨rfl, rfl⟩
    rw [show decide (sp < 0 ∨ 10 < sp) = true from by simp; omega]
    go_wp2_with fail
    go_ret
    exact ⟨ret_int' HF.out.symm, hk1⟩
  · by_cases h2 : fr < 0 ∨ til < fr
    · have HF := Lib.hid (show talkF ⟨sp, fr, til, few, re⟩ = 1 from by unfold talkF; dsimp only; rw [if_neg h1, if_pos h2])
      go_enter Tryz.func82, Tryz.ntmps82
      go_wp2_with fail
      refine (outside_any _ _ _ _).mono ?_
      rintro e w' ⟨rfl, rfl⟩
      rw [show decide (sp < 0 ∨ 10 < sp) = false from by simp; omega]
      go_wp2_with fail
      refine (outside_any _ _ _ _).mono ?_
      rintro e w' ⟨rfl, rfl⟩
      rw [show decide (fr < 0 ∨ til < fr) = true from by simp; omega]
      go_wp2_with fail
      go_ret
      exact ⟨ret_int' HF.out.symm, hk1⟩
    · by_cases h3 : 101 < til
      · have HF := Lib.hid (show talkF ⟨sp, fr, til, few, re⟩ = 1 from by unfold talkF; dsimp only; rw [if_neg h1, if_neg h2, if_pos h3])
        have hd : decide (101 < til) = true := by simpa using h3
        go_enter Tryz.func82, Tryz.ntmps82
        go_wp2_with fail
        refine (outside_any _ _ _ _).mono ?_
        rintro e w' ⟨rfl, rfl⟩
        rw [show decide (sp < 0 ∨ 10 < sp) = false from by simp; omega]
        go_wp2_with fail
        refine (outside_any _ _ _ _).mono ?_
        rintro e w' ⟨rfl, rfl⟩
        rw [show decide (fr < 0 ∨ til < fr) = false from by simp; omega]
        go_wp2_with fail
        go_ret
        exact ⟨ret_int' HF.out.symm, hk1⟩
      · have hd : decide (101 < til) = false := by simpa using h3
        by_cases h4 : few < 0 ∨ 11 < few
        · have HF := Lib.hid (show talkF ⟨sp, fr, til, few, re⟩ = 1 from by unfold talkF; dsimp only; rw [if_neg h1, if_neg h2, if_neg h3, if_pos h4])
          go_enter Tryz.func82, Tryz.ntmps82
          go_wp2_with fail
          refine (outside_any _ _ _ _).mono ?_
          rintro e w' ⟨rfl, rfl⟩
          rw [show decide (sp < 0 ∨ 10 < sp) = false from by simp; omega]
          go_wp2_with fail
          refine (outside_any _ _ _ _).mono ?_
          rintro e w' ⟨rfl, rfl⟩
          rw [show decide (fr < 0 ∨ til < fr) = false from by simp; omega]
          go_wp2_with fail
          refine (outside_any _ _ _ _).mono ?_
          rintro e w' ⟨rfl, rfl⟩
          rw [show decide (few < 0 ∨ 11 < few) = true from by simp; omega]
          go_wp2_with fail
          go_ret
          exact ⟨ret_int' HF.out.symm, hk1⟩
        · have HF := Lib.hid (show talkF ⟨sp, fr, til, few, re⟩ = 0 from by unfold talkF; dsimp only; rw [if_neg h1, if_neg h2, if_neg h3, if_neg h4])
          go_enter Tryz.func82, Tryz.ntmps82
          go_wp2_with fail
          refine (outside_any _ _ _ _).mono ?_
          rintro e w' ⟨rfl, rfl⟩
          rw [show decide (sp < 0 ∨ 10 < sp) = false from by simp; omega]
          go_wp2_with fail
          refine (outside_any _ _ _ _).mono ?_
          rintro e w' ⟨rfl, rfl⟩
          rw [show decide (fr < 0 ∨ til < fr) = false from by simp; omega]
          go_wp2_with fail
          refine (outside_any _ _ _ _).mono ?_
          rintro e w' ⟨rfl, rfl⟩
          rw [show decide (few < 0 ∨ 11 < few) = false from by simp; omega]
          go_wp2_with fail
          go_ret
          exact ⟨ret_int' HF.out.symm, hk1⟩

set_option maxHeartbeats 1600000 in
theorem talkRulesFault_any (sp fr til few : Int) (re : Bool) (w : World) : Calls Tryz.prog 34 #[.agg #[.int .i64 sp, .int .i64 fr, .int .i64 til, .int .i64 few, .bool re]] w fun e w' => e = .returned (.int .i64 (talkF ⟨sp, fr, til, few, re⟩)) ∧ All w w' := by
  have hk1 : All w (w.alloc (.cells #[.int .i64 sp, .int .i64 fr, .int .i64 til, .int .i64 few, .bool re] 68)) := Kept.alloc _ _ _
  have hrb := heap_at w (.cells #[.int .i64 sp, .int .i64 fr, .int .i64 til, .int .i64 few, .bool re] 68) _ rfl
  have r0 := cell_at (i := 0) hrb rfl
  have r1 := cell_at (i := 1) hrb rfl
  have r2 := cell_at (i := 2) hrb rfl
  have r3 := cell_at (i := 3) hrb rfl
  have r4 := cell_at (i := 4) hrb rfl
  clear hrb
  by_cases h1 : sp < 0 ∨ 10 < sp
  · have HF := Lib.hid (show talkF ⟨sp, fr, til, few, re⟩ = 1 from by unfold talkF; dsimp only; rw [if_pos h1])
    go_enter Tryz.func34, Tryz.ntmps34
    go_wp2_with fail
    refine (in_any _ _ _ _).mono ?_
    rintro e w' ⟨rfl, rfl⟩
    rw [show decide (0 ≤ sp ∧ sp ≤ 10) = false from by simp; omega]
    go_wp2_with fail
    go_ret
    exact ⟨ret_int' HF.out.symm, hk1⟩
  · by_cases h2 : fr < 0 ∨ til < fr
    · have HF := Lib.hid (show talkF ⟨sp, fr, til, few, re⟩ = 1 from by unfold talkF; dsimp only; rw [if_neg h1, if_pos h2])
      go_enter Tryz.func34, Tryz.ntmps34
      go_wp2_with fail
      refine (in_any _ _ _ _).mono ?_
      rintro e w' ⟨rfl, rfl⟩
      rw [show decide (0 ≤ sp ∧ sp ≤ 10) = true from by simp; omega]
      go_wp2_with fail
      refine (in_any _ _ _ _).mono ?_
      rintro e w' ⟨rfl, rfl⟩
      rw [show decide (0 ≤ fr ∧ fr ≤ til) = false from by simp; omega]
      go_wp2_with fail
      go_ret
      exact ⟨ret_int' HF.out.symm, hk1⟩
    · by_cases h3 : 101 < til
      · have HF := Lib.hid (show talkF ⟨sp, fr, til, few, re⟩ = 1 from by unfold talkF; dsimp only; rw [if_neg h1, if_neg h2, if_pos h3])
        have hd : decide (101 < til) = true := by simpa using h3
        go_enter Tryz.func34, Tryz.ntmps34
        go_wp2_with fail
        refine (in_any _ _ _ _).mono ?_
        rintro e w' ⟨rfl, rfl⟩
        rw [show decide (0 ≤ sp ∧ sp ≤ 10) = true from by simp; omega]
        go_wp2_with fail
        refine (in_any _ _ _ _).mono ?_
        rintro e w' ⟨rfl, rfl⟩
        rw [show decide (0 ≤ fr ∧ fr ≤ til) = true from by simp; omega]
        go_wp2_with fail
        go_ret
        exact ⟨ret_int' HF.out.symm, hk1⟩
      · have hd : decide (101 < til) = false := by simpa using h3
        by_cases h4 : few < 0 ∨ 11 < few
        · have HF := Lib.hid (show talkF ⟨sp, fr, til, few, re⟩ = 1 from by unfold talkF; dsimp only; rw [if_neg h1, if_neg h2, if_neg h3, if_pos h4])
          go_enter Tryz.func34, Tryz.ntmps34
          go_wp2_with fail
          refine (in_any _ _ _ _).mono ?_
          rintro e w' ⟨rfl, rfl⟩
          rw [show decide (0 ≤ sp ∧ sp ≤ 10) = true from by simp; omega]
          go_wp2_with fail
          refine (in_any _ _ _ _).mono ?_
          rintro e w' ⟨rfl, rfl⟩
          rw [show decide (0 ≤ fr ∧ fr ≤ til) = true from by simp; omega]
          go_wp2_with fail
          refine (in_any _ _ _ _).mono ?_
          rintro e w' ⟨rfl, rfl⟩
          rw [show decide (0 ≤ few ∧ few ≤ 11) = false from by simp; omega]
          go_wp2_with fail
          go_ret
          exact ⟨ret_int' HF.out.symm, hk1⟩
        · have HF := Lib.hid (show talkF ⟨sp, fr, til, few, re⟩ = 0 from by unfold talkF; dsimp only; rw [if_neg h1, if_neg h2, if_neg h3, if_neg h4])
          go_enter Tryz.func34, Tryz.ntmps34
          go_wp2_with fail
          refine (in_any _ _ _ _).mono ?_
          rintro e w' ⟨rfl, rfl⟩
          rw [show decide (0 ≤ sp ∧ sp ≤ 10) = true from by simp; omega]
          go_wp2_with fail
          refine (in_any _ _ _ _).mono ?_
          rintro e w' ⟨rfl, rfl⟩
          rw [show decide (0 ≤ fr ∧ fr ≤ til) = true from by simp; omega]
          go_wp2_with fail
          refine (in_any _ _ _ _).mono ?_
          rintro e w' ⟨rfl, rfl⟩
          rw [show decide (0 ≤ few ∧ few ≤ 11) = true from by simp; omega]
          go_wp2_with fail
          go_ret
          exact ⟨ret_int' HF.out.symm, hk1⟩

theorem namesFault_any (a : Option Addr) (len cap : Nat) (ss : List ByteArray) (w : World) (hs : Sl RStr 1 (fun _ => True) w a len ss) (hl : len ≤ 1000000) :
    Calls Tryz.prog 83 #[.slice a len cap] w fun e w' => e = .returned (.int .i64 (namesF ss)) ∧ All w w' := by
  have hlen := hs.len
  by_cases h1 : 400 < len
  · have HF := Lib.hid (show namesF ss = 2 from by rw [namesF, if_pos (by omega)])
    clear hlen
    go_enter Tryz.func83, Tryz.ntmps83
    go_wp2_with fail
    go_ret
    exact ⟨ret_int' HF.out.symm, Kept.refl _ _⟩
  · have HF := Lib.hid (show namesF ss = riseF none ss from by rw [namesF, if_neg (by omega)])
    have hd : decide ((400 : Int) < (len : Int)) = false := by simp; omega
    clear hlen
    go_enter Tryz.func83, Tryz.ntmps83
    go_wp2_with fail
    refine (risingFault_any a len cap ss _ hs (by omega)).mono ?_
    rintro e w' ⟨rfl, rfl⟩
    go_wp2_with fail
    go_ret
    exact ⟨ret_int' HF.out.symm, Kept.refl _ _⟩

theorem namesFaultR_any (a : Option Addr) (len cap : Nat) (ss : List ByteArray) (w : World) (hs : Sl RStr 1 (fun _ => True) w a len ss) (hl : len ≤ 1000000) :
    Calls Tryz.prog 35 #[.slice a len cap] w fun e w' => e = .returned (.int .i64 (namesF ss)) ∧ All w w' := by
  have hlen := hs.len
  by_cases h1 : 400 < len
  · have HF := Lib.hid (show namesF ss = 2 from by rw [namesF, if_pos (by omega)])
    clear hlen
    go_enter Tryz.func35, Tryz.ntmps35
    go_wp2_with fail
    go_ret
    exact ⟨ret_int' HF.out.symm, Kept.refl _ _⟩
  · have HF := Lib.hid (show namesF ss = riseF none ss from by rw [namesF, if_neg (by omega)])
    have hd : decide ((400 : Int) < (len : Int)) = false := by simp; omega
    clear hlen
    go_enter Tryz.func35, Tryz.ntmps35
    go_wp2_with fail
    refine (rising_any a len cap ss _ hs (by omega)).mono ?_
    rintro e w' ⟨rfl, hw⟩
    go_wp2_with fail
    go_ret
    exact ⟨ret_int' HF.out.symm, hw⟩
end Go.Proofs.YtiecaedgphdfdaaGreatDoor
