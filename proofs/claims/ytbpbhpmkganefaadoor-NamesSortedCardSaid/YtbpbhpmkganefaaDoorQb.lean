/- Quota; printed. -/
import Derived.Test.YtbpbhpmkganefaaDoorKa
import Derived.Test.YtbpbhpmkganefaaDoorZc
namespace Go.Proofs.YtbpbhpmkganefaaDoor
open Go.RowKit

theorem quota_no (votes seats : Int) (w : World) (h : votes < 0 ∨ 1000 < votes ∨ seats < 1 ∨ 3 < seats) :
    Calls Tryd.prog 22 #[.int .i64 votes, .int .i64 seats] w fun e w' => e = .returned (.tuple #[.int .i64 0, .int .i64 1]) ∧ w = w' := by
  by_cases h1 : votes < 0 ∨ 1000 < votes
  · have hd : decide (votes < 0 ∨ 1000 < votes) = true := by simpa using h1
    go_enter Tryd.func22, Tryd.ntmps22
    go_wp2_with fail
    refine (outside_any _ _ _ _).mono ?_
    rintro e w' ⟨rfl, rfl⟩
    rw [hd]
    go_wp2_with fail
    go_ret2
    exact ⟨rfl, rfl⟩
  · have hd : decide (votes < 0 ∨ 1000 < votes) = false := by simpa using h1
    have h2 : seats < 1 ∨ 3 < seats := by omega
    have hd2 : decide (seats < 1 ∨ 3 < seats) = true := by simpa using h2
    go_enter Tryd.func22, Tryd.ntmps22
    go_wp2_with fail
    refine (outside_any _ _ _ _).mono ?_
    rintro e w' ⟨rfl, rfl⟩
    rw [hd]
    go_wp2_with fail
    refine (outside_any _ _ _ _).mono ?_
    rintro e w' ⟨rfl, rfl⟩
    rw [hd2]
    go_wp2_with fail
    go_ret2
    exact ⟨rfl, rfl⟩
theorem quota_yes (votes seats : Int) (w : World) (h1 : 0 ≤ votes) (h2 : votes ≤ 1000) (h3 : 1 ≤ seats) (h4 : seats ≤ 3) :
    Calls Tryd.prog 22 #[.int .i64 votes, .int .i64 seats] w fun e w' => e = .returned (.tuple #[.int .i64 (votes / (seats + 1) + 1), .int .i64 0]) ∧ w = w' := by
  have hd : decide (votes < 0 ∨ 1000 < votes) = false := by simp; omega
  have hd2 : decide (seats < 1 ∨ 3 < seats) = false := by simp; omega
  have hq1 : 0 ≤ votes / (seats + 1) := Int.ediv_nonneg h1 (by omega)
  have hq2 : votes / (seats + 1) ≤ votes := Int.ediv_le_self _ h1
  go_enter Tryd.func22, Tryd.ntmps22
  go_wp2_with fail
  refine (outside_any _ _ _ _).mono ?_
  rintro e w' ⟨rfl, rfl⟩
  rw [hd]
  go_wp2_with fail
  refine (outside_any _ _ _ _).mono ?_
  rintro e w' ⟨rfl, rfl⟩
  rw [hd2]
  go_wp2_with fail
  go_ret2
  exact ⟨rfl, rfl⟩
theorem printed_any (w : World) : Calls Tryd.prog 11 #[] w fun e w' => e = .returned (.bool true) ∧ w = w' := by
  go_enter Tryd.func11, Tryd.ntmps11
  go_wp2_with fail
  refine (quota_yes 10 2 _ (by omega) (by omega) (by omega) (by omega)).mono ?_
  rintro e w' ⟨rfl, rfl⟩
  go_wp2
  go_ret
  exact ⟨rfl, rfl⟩
end Go.Proofs.YtbpbhpmkganefaaDoor
