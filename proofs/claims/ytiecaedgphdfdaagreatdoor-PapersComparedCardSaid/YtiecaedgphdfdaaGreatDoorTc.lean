/- rulesFault and DecideFault answer rulF. -/
import Derived.Test.YtiecaedgphdfdaaGreatDoorTa
import Derived.Test.YtiecaedgphdfdaaGreatDoorTb
import Derived.Test.YtiecaedgphdfdaaGreatDoorKa
namespace Go.Proofs.YtiecaedgphdfdaaGreatDoor
open Go.RowKit

set_option maxHeartbeats 1600000 in
theorem rulesFault_any (a : Option Addr) (len cap : Nat) (cs : List Int) (fl : Int) (w : World) (hs : Sl RInt 1 (fun _ => True) w a len cs) (hl : len ≤ 1000000) (hcap : len ≤ cap) :
    Calls Tryz.prog 70 #[.agg #[.slice a len cap, .int .i64 fl]] w fun e w' => e = .returned (.int .i64 (rulF cs fl)) ∧ All w w' := by
  have Hlen := Lib.hid hs.len
  have hk0 : All w (w.alloc (.cells #[.slice a len cap, .int .i64 fl] 52)) := Kept.alloc _ _ _
  have hblk := heap_at w (.cells #[.slice a len cap, .int .i64 fl] 52) _ rfl
  have r0 := cell_at (i := 0) hblk rfl
  have r1 := cell_at (i := 1) hblk rfl
  replace hs := hs.keep RInt.ok hk0
  clear hblk
  by_cases hz : len = 0
  · have hnil : cs = [] := List.eq_nil_of_length_eq_zero (by rw [Hlen.out]; exact hz)
    have hf := Lib.hid (show rulF cs fl = 3 by rw [hnil]; exact rulF_nil)
    have hl0 : ((len : Int) == 0) = true := by simp; omega
    clear hnil hz hs
    go_enter Tryz.func70, Tryz.ntmps70
    go_wp2_with fail
    go_ret
    exact ⟨ret_int' hf.out.symm, hk0⟩
  · have HNE := Lib.hid (show cs ≠ [] from fun e => hz (by rw [← Hlen.out, e]; rfl))
    have hl0 : ((len : Int) == 0) = false := by simp; omega
    clear hz
    go_enter Tryz.func70, Tryz.ntmps70
    go_wp2_with fail
    generalize w.alloc (.cells #[.slice a len cap, .int .i64 fl] 52) = w1 at *
    go_loop [3, 4, 12] (fun _ _ i => ∃ k : Nat, k ≤ len ∧ i = .int .i64 k ∧ RulAt cs k) (fun _ _ i => len - (intOf i).toNat)
    case atStart => exact ⟨0, Nat.zero_le _, rfl, RulAt.zero _⟩
    case round =>
      obtain ⟨k, hk, rfl, hat⟩ := hrel
      have HA := Lib.hid hat
      clear hat
      by_cases hlt : k < len
      · obtain ⟨b, off, y, ha, -, hck, hy, -, htake⟩ := hs.atInt hlt
        have Hy := Lib.hid hy
        have Htake := Lib.hid htake
        have htk := hs.take (k := k) (by omega)
        subst ha
        clear hs hy htake
        by_cases h1 : y < 1 ∨ 5 < y
        · have hf := Lib.hid (rulF_bad (fl := fl) HNE.out (HA.out.kind Hy.out h1) (by decide))
          have HD := Lib.hid (show decide (y < 1 ∨ 5 < y) = true from by simp; omega)
          clear h1
          go_wp2_with fail
          refine (outside_any _ _ _ _).mono ?_
          rintro e w' ⟨rfl, rfl⟩
          rw [HD.out]
          clear HD
          go_wp2_with fail
          go_ret
          exact ⟨ret_int' hf.out.symm, hk0⟩
        · have H1 := Lib.hid h1
          have HD := Lib.hid (show decide (y < 1 ∨ 5 < y) = false from by simp; omega)
          clear h1
          go_wp2_with fail
          refine (outside_any _ _ _ _).mono ?_
          rintro e w' ⟨rfl, rfl⟩
          rw [HD.out]
          clear HD
          go_wp2_with fail
          refine (containsI_any _ k cap (cs.take k) y _ htk (by omega)).mono ?_
          rintro e w' ⟨rfl, rfl⟩
          by_cases h2 : y ∈ cs.take k
          · have hf := Lib.hid (rulF_bad (fl := fl) HNE.out (HA.out.twice Hy.out H1.out h2) (by decide))
            rw [memI_true h2]
            clear h2
            go_wp2_with fail
            go_ret
            exact ⟨ret_int' hf.out.symm, hk0⟩
          · have hn := Lib.hid (HA.out.next Hy.out Htake.out H1.out h2)
            rw [memI_false h2]
            clear h2
            go_wp2_with fail
            go_round
            case rel => exact ⟨k + 1, by omega, by go_num, hn.out⟩
            case measure => simp [intOf]; omega
      · have hd : decide ((k : Int) < (len : Int)) = false := by simp; omega
        have HG := Lib.hid (HA.out.done (by rw [Hlen.out]; omega))
        by_cases h1 : fl < 0 ∨ 100 < fl
        · have hf := Lib.hid (rulF_floor HNE.out HG.out h1)
          have HD := Lib.hid (show decide (fl < 0 ∨ 100 < fl) = true from by simp; omega)
          clear h1
          go_wp2_with fail
          refine (outside_any _ _ _ _).mono ?_
          rintro e w' ⟨rfl, rfl⟩
          rw [HD.out]
          clear HD
          go_wp2_with fail
          go_ret
          exact ⟨ret_int' hf.out.symm, hk0⟩
        · have hf := Lib.hid (rulF_ok HNE.out HG.out h1)
          have HD := Lib.hid (show decide (fl < 0 ∨ 100 < fl) = false from by simp; omega)
          clear h1
          go_wp2_with fail
          refine (outside_any _ _ _ _).mono ?_
          rintro e w' ⟨rfl, rfl⟩
          rw [HD.out]
          clear HD
          go_wp2_with fail
          go_ret
          exact ⟨ret_int' hf.out.symm, hk0⟩

set_option maxHeartbeats 1600000 in
theorem decideFault_any (a : Option Addr) (len cap : Nat) (cs : List Int) (fl : Int) (w : World) (hs : Sl RInt 1 (fun _ => True) w a len cs) (hl : len ≤ 1000000) (hcap : len ≤ cap) :
    Calls Tryz.prog 26 #[.agg #[.slice a len cap, .int .i64 fl]] w fun e w' => e = .returned (.int .i64 (rulF cs fl)) ∧ All w w' := by
  have Hlen := Lib.hid hs.len
  have hk0 : All w (w.alloc (.cells #[.slice a len cap, .int .i64 fl] 52)) := Kept.alloc _ _ _
  have hblk := heap_at w (.cells #[.slice a len cap, .int .i64 fl] 52) _ rfl
  have r0 := cell_at (i := 0) hblk rfl
  have r1 := cell_at (i := 1) hblk rfl
  replace hs := hs.keep RInt.ok hk0
  clear hblk
  by_cases hz : len = 0
  · have hnil : cs = [] := List.eq_nil_of_length_eq_zero (by rw [Hlen.out]; exact hz)
    have hf := Lib.hid (show rulF cs fl = 3 by rw [hnil]; exact rulF_nil)
    have hl0 : ((len : Int) == 0) = true := by simp; omega
    clear hnil hz hs
    go_enter Tryz.func26, Tryz.ntmps26
    go_wp2_with fail
    go_ret
    exact ⟨ret_int' hf.out.symm, hk0⟩
  · have HNE := Lib.hid (show cs ≠ [] from fun e => hz (by rw [← Hlen.out, e]; rfl))
    have hl0 : ((len : Int) == 0) = false := by simp; omega
    clear hz
    go_enter Tryz.func26, Tryz.ntmps26
    go_wp2_with fail
    generalize w.alloc (.cells #[.slice a len cap, .int .i64 fl] 52) = w1 at *
    go_loop [3, 4, 12] (fun _ _ i => ∃ k : Nat, k ≤ len ∧ i = .int .i64 k ∧ RulAt cs k) (fun _ _ i => len - (intOf i).toNat)
    case atStart => exact ⟨0, Nat.zero_le _, rfl, RulAt.zero _⟩
    case round =>
      obtain ⟨k, hk, rfl, hat⟩ := hrel
      have HA := Lib.hid hat
      clear hat
      by_cases hlt : k < len
      · obtain ⟨b, off, y, ha, -, hck, hy, -, htake⟩ := hs.atInt hlt
        have Hy := Lib.hid hy
        have Htake := Lib.hid htake
        have htk := hs.take (k := k) (by omega)
        subst ha
        clear hs hy htake
        by_cases h1 : y < 1 ∨ 5 < y
        · have hf := Lib.hid (rulF_bad (fl := fl) HNE.out (HA.out.kind Hy.out h1) (by decide))
          have HD := Lib.hid (show decide (1 ≤ y ∧ y ≤ 5) = false from by simp; omega)
          clear h1
          go_wp2_with fail
          refine (in_any _ _ _ _).mono ?_
          rintro e w' ⟨rfl, rfl⟩
          rw [HD.out]
          clear HD
          go_wp2_with fail
          go_ret
          exact ⟨ret_int' hf.out.symm, hk0⟩
        · have H1 := Lib.hid h1
          have HD := Lib.hid (show decide (1 ≤ y ∧ y ≤ 5) = true from by simp; omega)
          clear h1
          go_wp2_with fail
          refine (in_any _ _ _ _).mono ?_
          rintro e w' ⟨rfl, rfl⟩
          rw [HD.out]
          clear HD
          go_wp2_with fail
          refine (containsI_any _ k cap (cs.take k) y _ htk (by omega)).mono ?_
          rintro e w' ⟨rfl, rfl⟩
          by_cases h2 : y ∈ cs.take k
          · have hf := Lib.hid (rulF_bad (fl := fl) HNE.out (HA.out.twice Hy.out H1.out h2) (by decide))
            rw [memI_true h2]
            clear h2
            go_wp2_with fail
            go_ret
            exact ⟨ret_int' hf.out.symm, hk0⟩
          · have hn := Lib.hid (HA.out.next Hy.out Htake.out H1.out h2)
            rw [memI_false h2]
            clear h2
            go_wp2_with fail
            go_round
            case rel => exact ⟨k + 1, by omega, by go_num, hn.out⟩
            case measure => simp [intOf]; omega
      · have hd : decide ((k : Int) < (len : Int)) = false := by simp; omega
        have HG := Lib.hid (HA.out.done (by rw [Hlen.out]; omega))
        by_cases h1 : fl < 0 ∨ 100 < fl
        · have hf := Lib.hid (rulF_floor HNE.out HG.out h1)
          have HD := Lib.hid (show decide (0 ≤ fl ∧ fl ≤ 100) = false from by simp; omega)
          clear h1
          go_wp2_with fail
          refine (in_any _ _ _ _).mono ?_
          rintro e w' ⟨rfl, rfl⟩
          rw [HD.out]
          clear HD
          go_wp2_with fail
          go_ret
          exact ⟨ret_int' hf.out.symm, hk0⟩
        · have hf := Lib.hid (rulF_ok HNE.out HG.out h1)
          have HD := Lib.hid (show decide (0 ≤ fl ∧ fl ≤ 100) = true from by simp; omega)
          clear h1
          go_wp2_with fail
          refine (in_any _ _ _ _).mono ?_
          rintro e w' ⟨rfl, rfl⟩
          rw [HD.out]
          clear HD
          go_wp2_with fail
          go_ret
          exact ⟨ret_int' hf.out.symm, hk0⟩
end Go.Proofs.YtiecaedgphdfdaaGreatDoor
