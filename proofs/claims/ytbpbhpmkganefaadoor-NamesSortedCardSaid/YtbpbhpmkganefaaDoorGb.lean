/- isLine and named answer lineB. -/
import Derived.Test.YtbpbhpmkganefaaDoorGa
namespace Go.Proofs.YtbpbhpmkganefaaDoor
open Go.RowKit

noncomputable def lineB (s : ByteArray) (most : Int) : Bool := !(decide (s.size = 0)) && plainB s && decide ((s.size : Int) ≤ most)

theorem isLine_any (s : ByteArray) (most : Int) (w : World) (hs : s.size ≤ 1000000) (hg : Glob w) :
    Calls Tryd.prog 16 #[.string s, .int .i64 most] w fun e w' => e = .returned (.bool (lineB s most)) ∧ All w w' := by
  have HP := Lib.hid (isPlain_any s w hs hg)
  clear hg
  by_cases h0 : s.size = 0
  · have he : s.toList = [] := toList_nil h0
    have hd : s.toList.isEmpty = true := by simp [he]
    have hl : lineB s most = false := by unfold lineB; simp [h0]
    rw [hl]
    clear hl h0
    go_enter Tryd.func16, Tryd.ntmps16
    go_wp2_with fail
    go_ret
    exact ⟨rfl, Kept.refl _ _⟩
  · have he : s.toList ≠ [] := toList_ne h0
    have hd : s.toList.isEmpty = false := by simpa using he
    cases hp : plainB s with
    | false =>
      have hl : lineB s most = false := by unfold lineB; simp [hp]
      rw [hl]
      have Hp := Lib.hid hp
      clear hl hp h0
      go_enter Tryd.func16, Tryd.ntmps16
      go_wp2_with fail
      refine HP.out.mono ?_
      rintro e w1 ⟨rfl, hw1⟩
      rw [Hp.out]
      go_wp2_with fail
      go_ret
      exact ⟨rfl, hw1⟩
    | true =>
      by_cases hle : (s.size : Int) ≤ most
      · have hl : lineB s most = true := by unfold lineB; simp [hp, h0, hle]
        have d1 : decide ((s.size : Int) ≤ most) = true := by simpa using hle
        rw [hl]
        have Hp := Lib.hid hp
        clear hl hp h0
        go_enter Tryd.func16, Tryd.ntmps16
        go_wp2_with fail
        refine HP.out.mono ?_
        rintro e w1 ⟨rfl, hw1⟩
        rw [Hp.out]
        go_wp2_with fail
        go_ret
        exact ⟨rfl, hw1⟩
      · have hl : lineB s most = false := by unfold lineB; simp [hle]
        have d1 : decide ((s.size : Int) ≤ most) = false := by simpa using hle
        rw [hl]
        have Hp := Lib.hid hp
        clear hl hp h0
        go_enter Tryd.func16, Tryd.ntmps16
        go_wp2_with fail
        refine HP.out.mono ?_
        rintro e w1 ⟨rfl, hw1⟩
        rw [Hp.out]
        go_wp2_with fail
        go_ret
        exact ⟨rfl, hw1⟩

end Go.Proofs.YtbpbhpmkganefaaDoor
