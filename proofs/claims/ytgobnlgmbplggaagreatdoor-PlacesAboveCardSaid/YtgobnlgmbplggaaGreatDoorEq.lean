/- when and errs of the laws. -/
import Derived.Test.YtgobnlgmbplggaaGreatDoorP0
namespace Go.Proofs.YtgobnlgmbplggaaGreatDoor
open Go.RowKit

theorem whenV_any (is : Bool) (n : Int) (w : World) : Calls Tryz.prog 27 #[.bool is, .int .i64 n] w fun e w' => e = .returned (.int .i64 (if is = true then n else 0)) ∧ w = w' := by
  cases is
  · go_enter Tryz.func27, Tryz.ntmps27
    go_wp2
    go_ret
    exact ⟨rfl, rfl⟩
  · go_enter Tryz.func27, Tryz.ntmps27
    go_wp2
    go_ret
    exact ⟨rfl, rfl⟩

/-- The first error of a list. -/
def firstV : List Int → Int
  | [] => 0
  | e :: l => if e ≠ 0 then e else firstV l
theorem errsV_any (a : Option Addr) (len cap : Nat) (es : List Int) (w : World) (hs : Sl RInt 1 (fun _ => True) w a len es) (hl : len ≤ 1000000) :
    Calls Tryz.prog 26 #[.slice a len cap] w fun e w' => e = .returned (.int .i64 (firstV es)) ∧ w = w' := by
  have hlen := hs.len
  go_enter Tryz.func26, Tryz.ntmps26
  go_wp2
  go_loop [4, 7] (fun _ i => ∃ k : Nat, k ≤ len ∧ i = .int .i64 k ∧ firstV es = firstV (es.drop k)) (fun _ i => len - (intOf i).toNat)
  case atStart => exact ⟨0, Nat.zero_le _, rfl, by simp⟩
  case round =>
    obtain ⟨k, hk, rfl, hat⟩ := hrel
    have Hat := Lib.hid hat
    clear hat
    by_cases hlt : k < len
    · obtain ⟨b, off, y, ha, -, hck, hy, -, -⟩ := hs.atInt hlt
      subst ha
      by_cases h0 : y = 0
      · have hb : (y != 0) = false := by simp [h0]
        have hn : firstV es = firstV (es.drop (k + 1)) := by rw [Hat.out, drop_at hy, firstV, if_neg (by simp [h0])]
        have Hn := Lib.hid hn
        clear hn h0 hlen
        go_wp2_with fail
        go_round
        case rel => exact ⟨k + 1, by omega, by go_num, Hn.out⟩
        case measure => simp [intOf]; omega
      · have hb : (y != 0) = true := by simp [h0]
        have hn : firstV es = y := by rw [Hat.out, drop_at hy, firstV, if_pos h0]
        have Hn := Lib.hid hn
        clear hn hlen
        go_wp2_with fail
        go_ret
        exact ⟨ret_int' Hn.out.symm, rfl⟩
    · have hd : decide ((k : Int) < (len : Int)) = false := by simp; omega
      have hfin : firstV es = 0 := by rw [Hat.out, List.drop_of_length_le (by omega)]; rfl
      have Hfin := Lib.hid hfin
      clear hfin
      go_wp2
      go_ret
      exact ⟨ret_int' Hfin.out.symm, rfl⟩
end Go.Proofs.YtgobnlgmbplggaaGreatDoor
