/- keyFault; talked. -/
import Derived.Test.YtllkemadaemjeaaGreatDoorRg
import Derived.Test.YtllkemadaemjeaaGreatDoorEq
namespace Go.Proofs.YtllkemadaemjeaaGreatDoor
open Go.RowKit

theorem keyFault_any (p : ByteArray) (w : World) (hp : p.size ≤ 1000000) :
    Calls Tryz.prog 44 #[.string p] w fun e w' => e = .returned (.int .i64 (if isKeyB p = true then 0 else 5)) ∧ All w w' := by
  cases hk : isKeyB p
  · go_enter Tryz.func44, Tryz.ntmps44
    go_wp2_with fail
    refine (key_any p _ hp).mono ?_
    rintro e w2 ⟨rfl, hw2⟩
    rw [hk]
    go_wp2_with fail
    refine (whenV_any _ _ _).mono ?_
    rintro e w' ⟨rfl, rfl⟩
    go_wp2_with fail
    go_ret
    exact ⟨by simp, hw2⟩
  · go_enter Tryz.func44, Tryz.ntmps44
    go_wp2_with fail
    refine (key_any p _ hp).mono ?_
    rintro e w2 ⟨rfl, hw2⟩
    rw [hk]
    go_wp2_with fail
    refine (whenV_any _ _ _).mono ?_
    rintro e w' ⟨rfl, rfl⟩
    go_wp2_with fail
    go_ret
    exact ⟨by simp, hw2⟩

def markT : Mark3 := ⟨⟨#[112]⟩, ⟨#[97]⟩, 3⟩
theorem isKey_p : isKeyB ⟨#[112]⟩ = true := isKeyB_true ⟨fun i h _ => by
  have h0 : i = 0 := by have : (⟨#[112]⟩ : ByteArray).size = 1 := rfl; omega
  subst h0
  exact Or.inl ⟨show (97 : Int) ≤ 112 by decide, show (112 : Int) ≤ 122 by decide⟩, by decide, by decide⟩
theorem isKey_a : isKeyB ⟨#[97]⟩ = true := isKeyB_true ⟨fun i h _ => by
  have h0 : i = 0 := by have : (⟨#[97]⟩ : ByteArray).size = 1 := rfl; omega
  subst h0
  exact Or.inl ⟨show (97 : Int) ≤ 97 by decide, show (97 : Int) ≤ 122 by decide⟩, by decide, by decide⟩
theorem marksF_T : marksF [markT] = 0 := by
  rw [marksF_some (by simp), marksG_cons, markF_ok (x := markT) isKey_p isKey_a rfl (by decide), if_neg (by simp)]
  rfl
theorem scs_T : scs [markT] ⟨#[112]⟩ = [3] := by simp [scs, markT]
theorem meanE_T : meanE [markT] ⟨#[112]⟩ = 0 := by
  rw [meanE, marksF_T, if_neg (by simp), isKey_p, if_neg (by simp), scs_T, if_neg (by simp)]
theorem srt_T : srtI [3] = [3] := by simp [srtI]
theorem meanN_T : meanN [markT] ⟨#[112]⟩ = 3 := by
  rw [meanN, scs_T, srt_T]; rfl
theorem meanD_T : meanD [markT] ⟨#[112]⟩ = 1 := by
  rw [meanD, scs_T, srt_T]; rfl
set_option maxHeartbeats 800000 in
theorem talked_any (w : World) : Calls Tryz.prog 15 #[] w fun e w' => e = .returned (.bool true) ∧ All w w' := by
  have hk : All w (w.alloc (.cells #[.string ⟨#[112]⟩, .string ⟨#[97]⟩, .int .i64 3] 117)) := Kept.alloc _ _ _
  have hb := heap_at w (.cells #[.string ⟨#[112]⟩, .string ⟨#[97]⟩, .int .i64 3] 117) _ rfl
  have hsl : Sl RMark 3 (fun _ => True) (w.alloc (.cells #[.string ⟨#[112]⟩, .string ⟨#[97]⟩, .int .i64 3] 117)) (some ⟨w.heap.size, 0, none⟩) 1 [markT] := by
    refine ⟨rfl, fun _ => ⟨w.heap.size, 0, rfl, trivial, fun i hi => ⟨[.string ⟨#[112]⟩, .string ⟨#[97]⟩, .int .i64 3], rfl, fun j hj => ?_, ?_⟩⟩⟩
    · have h0 : i = 0 := by simpa using hi
      subst h0
      have hj3 : j = 0 ∨ j = 1 ∨ j = 2 := by simp at hj; omega
      rcases hj3 with rfl | rfl | rfl
      · exact cell_at (i := 0) hb rfl
      · exact cell_at (i := 1) hb rfl
      · exact cell_at (i := 2) hb rfl
    · have h0 : i = 0 := by simpa using hi
      subst h0
      exact ⟨rfl, show (1 : Nat) ≤ 1000000 by decide, show (1 : Nat) ≤ 1000000 by decide⟩
  have HM := Lib.hid (mean_any (some ⟨w.heap.size, 0, none⟩) 1 1 [markT] ⟨#[112]⟩ _ hsl (by omega) (by decide))
  clear hsl hb
  go_enter Tryz.func15, Tryz.ntmps15
  go_wp2_with fail
  refine HM.out.mono ?_
  rintro e w2 ⟨-, he, hw2⟩
  have he' := he meanE_T
  rw [meanN_T, meanD_T] at he'
  subst he'
  have hk2 := hk.trans hw2
  clear HM he
  go_wp2_with fail
  go_ret
  exact ⟨rfl, by repeat (first | exact hk2 | refine Kept.then_drew ?_ | refine Kept.then_drewN ?_ _ | refine Kept.then_alloc ?_ _)⟩
end Go.Proofs.YtllkemadaemjeaaGreatDoor
