/- cmp.Compare of numbers; sign. -/
import Derived.Test.YtiecaedgphdfdaaGreatDoorTa
import Derived.Test.YtiecaedgphdfdaaGreatDoorKa
namespace Go.Proofs.YtiecaedgphdfdaaGreatDoor
open Go.RowKit

theorem isNaNI_any (a : Int) (w : World) : Calls Tryz.prog 147 #[.int .i64 a] w fun e w' => e = .returned (.bool false) ∧ w = w' := by
  have hn : (a != a) = false := by simp
  go_enter Tryz.func147, Tryz.ntmps147
  go_wp2_with fail
  go_ret
  exact ⟨rfl, rfl⟩
theorem compareI_any (a b : Int) (w : World) : Calls Tryz.prog 125 #[.int .i64 a, .int .i64 b] w fun e w' => e = .returned (.int .i64 (cmpI a b)) ∧ w = w' := by
  rcases Int.lt_trichotomy a b with h | h | h
  · have HF := Lib.hid (cmpI_lt h)
    have d1 : decide (a < b) = true := by simpa using h
    go_enter Tryz.func125, Tryz.ntmps125
    go_wp2_with (go_at_call 147; refine (isNaNI_any _ _).mono ?_; rintro e w' ⟨rfl, rfl⟩)
    go_ret
    exact ⟨ret_int' HF.out.symm, rfl⟩
  · have HF := Lib.hid (cmpI_eq h)
    subst h
    have d1 : decide (a < a) = false := by simp
    go_enter Tryz.func125, Tryz.ntmps125
    go_wp2_with (go_at_call 147; refine (isNaNI_any _ _).mono ?_; rintro e w' ⟨rfl, rfl⟩)
    go_ret
    exact ⟨ret_int' HF.out.symm, rfl⟩
  · have HF := Lib.hid (cmpI_gt h)
    have d1 : decide (a < b) = false := by simp; omega
    have d2 : decide (b < a) = true := by simpa using h
    go_enter Tryz.func125, Tryz.ntmps125
    go_wp2_with (go_at_call 147; refine (isNaNI_any _ _).mono ?_; rintro e w' ⟨rfl, rfl⟩)
    go_ret
    exact ⟨ret_int' HF.out.symm, rfl⟩
theorem sign_any (a : Int) (w : World) : Calls Tryz.prog 80 #[.int .i64 a] w fun e w' => e = .returned (.int .i64 (cmpI a 0)) ∧ w = w' := by
  rcases Int.lt_trichotomy a 0 with h | h | h
  · have HF := Lib.hid (cmpI_lt h)
    have d1 : decide (a < 0) = true := by simpa using h
    go_enter Tryz.func80, Tryz.ntmps80
    go_wp2_with fail
    go_ret
    exact ⟨ret_int' HF.out.symm, rfl⟩
  · have HF := Lib.hid (cmpI_eq h)
    subst h
    go_enter Tryz.func80, Tryz.ntmps80
    go_wp2_with fail
    go_ret
    exact ⟨ret_int' HF.out.symm, rfl⟩
  · have HF := Lib.hid (cmpI_gt h)
    have d1 : decide (a < 0) = false := by simp; omega
    have d2 : decide (0 < a) = true := by simpa using h
    go_enter Tryz.func80, Tryz.ntmps80
    go_wp2_with fail
    go_ret
    exact ⟨ret_int' HF.out.symm, rfl⟩
end Go.Proofs.YtiecaedgphdfdaaGreatDoor
