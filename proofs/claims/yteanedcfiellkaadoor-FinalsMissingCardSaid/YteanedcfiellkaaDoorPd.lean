/- CheckBallots and BallotsFault answer ballotsF; Quota and QuotaOf agree. -/
import Derived.Test.YteanedcfiellkaaDoorPc
namespace Go.Proofs.YteanedcfiellkaaDoor
open Go.RowKit

set_option maxHeartbeats 800000 in
theorem rising_any (a : Option Addr) (len cap : Nat) (ss : List ByteArray) (w : World) (hs : Sl RStr 1 (fun _ => True) w a len ss) (hl : len ≤ 1000000) :
    Calls Tryd.prog 111 #[.slice a len cap, .func (.func 78) #[] #[], .int .i64 5] w fun e w' => e = .returned (.int .i64 (riseF none ss)) ∧ All w w' := by
  have hlen := hs.len
  go_enter Tryd.func111, Tryd.ntmps111
  go_wp2
  go_loopw [7, 8, 11] (fun _ _ i wr => ∃ k : Nat, k ≤ len ∧ i = .int .i64 k ∧ RiseAt ss k ∧ All w wr) (fun _ _ i _ => len - (intOf i).toNat)
  case atStart => exact ⟨0, Nat.zero_le _, rfl, by simp [RiseAt], Kept.refl _ _⟩
  case round =>
    obtain ⟨k, hk, rfl, hat, hall⟩ := hrel
    by_cases hlt : k < len
    · have hsr := hs.keep RStr.ok hall
      obtain ⟨b, off, y, ha, hF, hck, hyz, hy, -, -⟩ := hsr.atStr hlt
      subst ha
      have hck0 : k = 0 → wr.cell? ⟨b, off, none⟩ = some (.string y) := fun e => by rw [e, Nat.add_zero] at hck; exact hck
      cases hkey : isKeyB y with
      | false =>
        have hfin := Lib.hid (hat.name hy hkey)
        clear hck0
        go_wp2_with fail
        refine (key_any y _ hyz).mono ?_
        rintro e w' ⟨rfl, hw⟩
        rw [hkey]
        go_wp2_with fail
        go_ret
        exact ⟨ret_int' hfin.out.symm, hall.trans hw⟩
      | true =>
        cases k with
        | zero =>
          have hnx := hat.first hy hkey
          have hck1 := hck0 rfl
          clear hck0
          go_wp2_with fail
          refine (key_any y _ hyz).mono ?_
          rintro e w' ⟨rfl, hw⟩
          rw [hkey]
          go_wp2_with fail
          go_roundw
          case rel => exact ⟨1, by omega, rfl, hnx, hall.trans hw⟩
          case measure => simp [intOf]; omega
        | succ k =>
          clear hck0
          obtain ⟨b', off', x, ha', _, hcx, hxz, hx, -, -⟩ := hsr.atStr (k := k) (by omega)
          cases ha'
          cases hle : leB y x with
          | true =>
            have hfin := Lib.hid (hat.order hx hy hkey hle)
            have hle' : (Op.bytesLess y.toList x.toList || y.toList == x.toList) = true := hle
            go_wp2_with fail
            refine (key_any y _ hyz).mono ?_
            rintro e w' ⟨rfl, hw⟩
            rw [hkey]
            have hcx' := hw.cell hcx trivial
            go_wp2_with fail
            go_ret
            exact ⟨ret_int' hfin.out.symm, hall.trans hw⟩
          | false =>
            have hnx := hat.next hx hy hkey hle
            have hle' : (Op.bytesLess y.toList x.toList || y.toList == x.toList) = false := hle
            go_wp2_with fail
            refine (key_any y _ hyz).mono ?_
            rintro e w' ⟨rfl, hw⟩
            rw [hkey]
            have hcx' := hw.cell hcx trivial
            go_wp2_with fail
            go_roundw
            case rel => exact ⟨k + 1 + 1, by omega, by go_num, hnx, hall.trans hw⟩
            case measure => simp [intOf]; omega
    · have hd : decide ((k : Int) < (len : Int)) = false := by simp; omega
      have hfin : riseF none ss = 0 := by
        rw [hat, List.drop_of_length_le (by omega)]; rfl
      have Hfin := Lib.hid hfin
      clear hfin
      go_wp2
      go_ret
      exact ⟨ret_int' Hfin.out.symm, hall⟩

theorem nomineesFault_any (a : Option Addr) (len cap : Nat) (ss : List ByteArray) (w : World) (hs : Sl RStr 1 (fun _ => True) w a len ss) (hl : len ≤ 1000000) :
    Calls Tryd.prog 65 #[.slice a len cap] w fun e w' => e = .returned (.int .i64 (nomF ss)) ∧ w = w' := by
  have hlen := hs.len
  unfold nomF
  by_cases h0 : len = 0
  · have hb : ((len : Int) == 0) = true := by simp; omega
    rw [if_pos (by omega)]
    clear hlen h0
    go_enter Tryd.func65, Tryd.ntmps65
    go_wp2
    go_ret
    exact ⟨rfl, rfl⟩
  · have hb : ((len : Int) == 0) = false := by simp; omega
    rw [if_neg (by omega)]
    by_cases h8 : 8 < len
    · have hd : decide ((8 : Int) < (len : Int)) = true := by simp; omega
      rw [if_pos (by omega)]
      clear hlen
      go_enter Tryd.func65, Tryd.ntmps65
      go_wp2
      go_ret
      exact ⟨rfl, rfl⟩
    · have hd : decide ((8 : Int) < (len : Int)) = false := by simp; omega
      rw [if_neg (by omega)]
      clear hlen
      go_enter Tryd.func65, Tryd.ntmps65
      go_wp2_with fail
      refine (risingFault_any a len cap ss _ hs hl).mono ?_
      rintro e w' ⟨rfl, rfl⟩
      go_wp2
      go_ret
      exact ⟨rfl, rfl⟩
theorem NomineesFault_any (a : Option Addr) (len cap : Nat) (ss : List ByteArray) (w : World) (hs : Sl RStr 1 (fun _ => True) w a len ss) (hl : len ≤ 1000000) :
    Calls Tryd.prog 66 #[.slice a len cap] w fun e w' => e = .returned (.int .i64 (nomF ss)) ∧ All w w' := by
  have hlen := hs.len
  unfold nomF
  by_cases h0 : len = 0
  · have hb : ((len : Int) == 0) = true := by simp; omega
    rw [if_pos (by omega)]
    clear hlen h0
    go_enter Tryd.func66, Tryd.ntmps66
    go_wp2
    go_ret
    exact ⟨rfl, Kept.refl _ _⟩
  · have hb : ((len : Int) == 0) = false := by simp; omega
    rw [if_neg (by omega)]
    by_cases h8 : 8 < len
    · have hd : decide ((8 : Int) < (len : Int)) = true := by simp; omega
      rw [if_pos (by omega)]
      clear hlen
      go_enter Tryd.func66, Tryd.ntmps66
      go_wp2
      go_ret
      exact ⟨rfl, Kept.refl _ _⟩
    · have hd : decide ((8 : Int) < (len : Int)) = false := by simp; omega
      rw [if_neg (by omega)]
      clear hlen
      go_enter Tryd.func66, Tryd.ntmps66
      go_wp2_with fail
      refine (rising_any a len cap ss _ hs hl).mono ?_
      rintro e w' ⟨rfl, hw⟩
      go_wp2
      go_ret
      exact ⟨rfl, hw⟩

/-! Quota -/
theorem quota_no (votes seats : Int) (w : World) (h : votes < 0 ∨ 1000 < votes ∨ seats < 1 ∨ 3 < seats) :
    Calls Tryd.prog 14 #[.int .i64 votes, .int .i64 seats] w fun e w' => e = .returned (.tuple #[.int .i64 0, .int .i64 1]) ∧ w = w' := by
  by_cases h1 : votes < 0 ∨ 1000 < votes
  · have hd : decide (votes < 0 ∨ 1000 < votes) = true := by simpa using h1
    go_enter Tryd.func14, Tryd.ntmps14
    go_wp2_with fail
    refine (outside_any _ _ _ _).mono ?_
    rintro e w' ⟨rfl, rfl⟩
    rw [hd]
    go_wp2_with fail
    go_ret2
    exact ⟨rfl, rfl⟩
  · have hd : decide (votes < 0 ∨ 1000 < votes) = false := by simpa using h1
    have h2 : seats < 1 ∨ 3 < seats := by omega
    have hd2 : decide (seats < 1 ∨ 3 < seats) = true := by simpa using h2
    go_enter Tryd.func14, Tryd.ntmps14
    go_wp2_with fail
    refine (outside_any _ _ _ _).mono ?_
    rintro e w' ⟨rfl, rfl⟩
    rw [hd]
    go_wp2_with fail
    refine (outside_any _ _ _ _).mono ?_
    rintro e w' ⟨rfl, rfl⟩
    rw [hd2]
    go_wp2_with fail
    go_ret2
    exact ⟨rfl, rfl⟩
theorem quota_yes (votes seats : Int) (w : World) (h1 : 0 ≤ votes) (h2 : votes ≤ 1000) (h3 : 1 ≤ seats) (h4 : seats ≤ 3) :
    Calls Tryd.prog 14 #[.int .i64 votes, .int .i64 seats] w fun e w' => e = .returned (.tuple #[.int .i64 (votes / (seats + 1) + 1), .int .i64 0]) ∧ w = w' := by
  have hd : decide (votes < 0 ∨ 1000 < votes) = false := by simp; omega
  have hd2 : decide (seats < 1 ∨ 3 < seats) = false := by simp; omega
  have hq1 : 0 ≤ votes / (seats + 1) := Int.ediv_nonneg h1 (by omega)
  have hq2 : votes / (seats + 1) ≤ votes := Int.ediv_le_self _ h1
  go_enter Tryd.func14, Tryd.ntmps14
  go_wp2_with fail
  refine (outside_any _ _ _ _).mono ?_
  rintro e w' ⟨rfl, rfl⟩
  rw [hd]
  go_wp2_with fail
  refine (outside_any _ _ _ _).mono ?_
  rintro e w' ⟨rfl, rfl⟩
  rw [hd2]
  go_wp2_with fail
  go_ret2
  exact ⟨rfl, rfl⟩
theorem printed_any (w : World) : Calls Tryd.prog 17 #[] w fun e w' => e = .returned (.bool true) ∧ w = w' := by
  go_enter Tryd.func17, Tryd.ntmps17
  go_wp2_with fail
  refine (quota_yes 10 2 _ (by omega) (by omega) (by omega) (by omega)).mono ?_
  rintro e w' ⟨rfl, rfl⟩
  go_wp2
  go_ret
  exact ⟨rfl, rfl⟩
theorem quotaOf_any (votes seats : Int) (w : World) (h1 : 0 ≤ votes) (h2 : votes ≤ 1000) (h3 : 1 ≤ seats) (h4 : seats ≤ 3) :
    Calls Tryd.prog 18 #[.int .i64 votes, .int .i64 seats] w fun e w' => e = .returned (.int .i64 (votes / (seats + 1) + 1)) ∧ w = w' := by
  go_enter Tryd.func18, Tryd.ntmps18
  go_wp2
  go_loop [5] (fun q => ∃ k : Int, 1 ≤ k ∧ k ≤ 1001 ∧ (k - 1) * (seats + 1) ≤ votes ∧ q = .int .i64 k) (fun q => (1002 - intOf q).toNat)
  case atStart => exact ⟨1, by omega, by omega, by omega, rfl⟩
  case round =>
    obtain ⟨k, hk1, hk2, hk3, rfl⟩ := hrel
    have hmul : (k - 1) * (seats + 1) = k * (seats + 1) - (seats + 1) := by rw [Int.sub_mul]; omega
    have hm0 : 0 ≤ k * (seats + 1) := Int.mul_nonneg (by omega) (by omega)
    have hm1 : k * (seats + 1) ≤ 2000 := by omega
    have Hmul := Lib.hid hmul
    clear hmul
    by_cases hle : k * (seats + 1) ≤ votes
    · have hk4 : k ≤ 1000 := by
        have : k * 1 ≤ k * (seats + 1) := Int.mul_le_mul_of_nonneg_left (by omega) (by omega)
        omega
      go_wp2
      go_round
      case rel => exact ⟨k + 1, by omega, by omega, by simpa using hle, rfl⟩
      case measure => simp [intOf]; omega
    · have hfin : votes / (seats + 1) + 1 = k := by
        have h5 : k - 1 ≤ votes / (seats + 1) := (Int.le_ediv_iff_mul_le (by omega)).2 hk3
        have h6 : votes / (seats + 1) < k := (Int.ediv_lt_iff_lt_mul (by omega)).2 (by omega)
        omega
      have Hfin := Lib.hid hfin
      clear hfin
      go_wp2
      go_ret
      exact ⟨ret_int' Hfin.out.symm, rfl⟩
end Go.Proofs.YteanedcfiellkaaDoor
