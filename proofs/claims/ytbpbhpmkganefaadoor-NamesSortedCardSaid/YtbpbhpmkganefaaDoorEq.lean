/- when and errs of the laws. -/
import Derived.Test.YtbpbhpmkganefaaDoorQa
namespace Go.Proofs.YtbpbhpmkganefaaDoor
open Go.RowKit

theorem whenV_any (is : Bool) (n : Int) (w : World) : Calls Tryd.prog 9 #[.bool is, .int .i64 n] w fun e w' => e = .returned (.int .i64 (if is = true then n else 0)) ∧ w = w' := by
  cases is
  · go_enter Tryd.func9, Tryd.ntmps9
    go_wp2
    go_ret
    exact ⟨rfl, rfl⟩
  · go_enter Tryd.func9, Tryd.ntmps9
    go_wp2
    go_ret
    exact ⟨rfl, rfl⟩

/-- The first error of a list. -/
def firstV : List Int → Int
  | [] => 0
  | e :: l => if e ≠ 0 then e else firstV l
end Go.Proofs.YtbpbhpmkganefaaDoor
