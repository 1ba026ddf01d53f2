/- Keys that must rise: RisingFault and rising. -/
import Derived.Test.YthhmgblcccbdaaaGreatDoorQc
import Derived.Test.YthhmgblcccbdaaaGreatDoorKb
namespace Go.Proofs.YthhmgblcccbdaaaGreatDoor
open Go.RowKit

/-- The error of keys that must rise, behind p. -/
noncomputable def riseF (p : Option ByteArray) : List ByteArray → Int
  | [] => 0
  | s :: l => if isKeyB s = false then 5 else if (match p with | none => false | some q => leB s q) = true then 7 else riseF (some s) l
theorem riseF_cons (p : Option ByteArray) (s : ByteArray) (l : List ByteArray) : riseF p (s :: l) = if isKeyB s = false then 5 else if (match p with | none => false | some q => leB s q) = true then 7 else riseF (some s) l := rfl
/-- The walk over keys up to place k has found nothing. -/
def RiseAt (ss : List ByteArray) (k : Nat) : Prop := riseF none ss = riseF (ss.take k).getLast? (ss.drop k)

theorem RiseAt.name {ss : List ByteArray} {k : Nat} {y : ByteArray} (h : RiseAt ss k) (hy : ss[k]? = some y) (hn : isKeyB y = false) : riseF none ss = 5 := by
  rw [h, drop_at hy, riseF_cons, if_pos hn]
theorem RiseAt.first {ss : List ByteArray} {y : ByteArray} (h : RiseAt ss 0) (hy : ss[0]? = some y) (hn : isKeyB y = true) : RiseAt ss 1 := by
  unfold RiseAt at *
  rw [h, drop_at hy, last_take hy, riseF_cons, if_neg (by simp [hn])]
  simp
theorem RiseAt.order {ss : List ByteArray} {k : Nat} {x y : ByteArray} (h : RiseAt ss (k + 1)) (hx : ss[k]? = some x) (hy : ss[k + 1]? = some y) (hn : isKeyB y = true) (hl : leB y x = true) : riseF none ss = 7 := by
  rw [h, drop_at hy, last_take hx, riseF_cons, if_neg (by simp [hn])]
  exact if_pos hl
theorem RiseAt.next {ss : List ByteArray} {k : Nat} {x y : ByteArray} (h : RiseAt ss (k + 1)) (hx : ss[k]? = some x) (hy : ss[k + 1]? = some y) (hn : isKeyB y = true) (hl : leB y x = false) : RiseAt ss (k + 1 + 1) := by
  unfold RiseAt at *
  rw [h, drop_at hy, last_take hx, last_take hy, riseF_cons, if_neg (by simp [hn])]
  exact if_neg (by simp [hl])

set_option maxHeartbeats 800000 in
theorem risingFault_any {F : Nat → Prop} (a : Option Addr) (len cap : Nat) (ss : List ByteArray) (w : World) (hs : Sl RStr 1 F w a len ss) (hl : len ≤ 1000000) :
    Calls Tryz.prog 131 #[.slice a len cap] w fun e w' => e = .returned (.int .i64 (riseF none ss)) ∧ w = w' := by
  have hlen := hs.len
  go_enter Tryz.func131, Tryz.ntmps131
  go_wp2
  go_loop [3, 4, 7] (fun _ _ i => ∃ k : Nat, k ≤ len ∧ i = .int .i64 k ∧ RiseAt ss k) (fun _ _ i => len - (intOf i).toNat)
  case atStart => exact ⟨0, Nat.zero_le _, rfl, by simp [RiseAt]⟩
  case round =>
    obtain ⟨k, hk, rfl, hat⟩ := hrel
    by_cases hlt : k < len
    · obtain ⟨b, off, y, ha, hF, hck, hyz, hy, -, -⟩ := hs.atStr hlt
      subst ha
      have hck0 : k = 0 → w.cell? ⟨b, off, none⟩ = some (.string y) := fun e => by rw [e, Nat.add_zero] at hck; exact hck
      cases hkey : isKeyB y with
      | false =>
        have hfin := Lib.hid (hat.name hy hkey)
        clear hck0
        go_wp2_with fail
        refine (isKey_any y _ (by omega)).mono ?_
        rintro e w' ⟨rfl, rfl⟩
        rw [hkey]
        go_wp2_with fail
        go_ret
        exact ⟨ret_int' hfin.out.symm, rfl⟩
      | true =>
        cases k with
        | zero =>
          have hnx := hat.first hy hkey
          have hck1 := hck0 rfl
          clear hck0
          go_wp2_with fail
          refine (isKey_any y _ (by omega)).mono ?_
          rintro e w' ⟨rfl, rfl⟩
          rw [hkey]
          go_wp2_with fail
          go_round
          case rel => exact ⟨1, by omega, rfl, hnx⟩
          case measure => simp [intOf]; omega
        | succ k =>
          clear hck0
          obtain ⟨b', off', x, ha', _, hcx, hxz, hx, -, -⟩ := hs.atStr (k := k) (by omega)
          cases ha'
          cases hle : leB y x with
          | true =>
            have hfin := Lib.hid (hat.order hx hy hkey hle)
            have hle' : (Op.bytesLess y.toList x.toList || y.toList == x.toList) = true := hle
            go_wp2_with fail
            refine (isKey_any y _ (by omega)).mono ?_
            rintro e w' ⟨rfl, rfl⟩
            rw [hkey]
            go_wp2_with fail
            go_ret
            exact ⟨ret_int' hfin.out.symm, rfl⟩
          | false =>
            have hnx := hat.next hx hy hkey hle
            have hle' : (Op.bytesLess y.toList x.toList || y.toList == x.toList) = false := hle
            go_wp2_with fail
            refine (isKey_any y _ (by omega)).mono ?_
            rintro e w' ⟨rfl, rfl⟩
            rw [hkey]
            go_wp2_with fail
            go_round
            case rel => exact ⟨k + 1 + 1, by omega, by go_num, hnx⟩
            case measure => simp [intOf]; omega
    · have hd : decide ((k : Int) < (len : Int)) = false := by simp; omega
      have hfin : riseF none ss = 0 := by
        rw [hat, List.drop_of_length_le (by omega)]; rfl
      have Hfin := Lib.hid hfin
      clear hfin
      go_wp2
      go_ret
      exact ⟨ret_int' Hfin.out.symm, rfl⟩

set_option maxHeartbeats 800000 in
theorem rising_any (a : Option Addr) (len cap : Nat) (ss : List ByteArray) (w : World) (hs : Sl RStr 1 (fun _ => True) w a len ss) (hl : len ≤ 1000000) :
    Calls Tryz.prog 126 #[.slice a len cap, .func (.func 91) #[] #[], .int .i64 5] w fun e w' => e = .returned (.int .i64 (riseF none ss)) ∧ All w w' := by
  have hlen := hs.len
  go_enter Tryz.func126, Tryz.ntmps126
  go_wp2
  go_loopw [7, 8, 11] (fun _ _ i wr => ∃ k : Nat, k ≤ len ∧ i = .int .i64 k ∧ RiseAt ss k ∧ All w wr) (fun _ _ i _ => len - (intOf i).toNat)
  case atStart => exact ⟨0, Nat.zero_le _, rfl, by simp [RiseAt], Kept.refl _ _⟩
  case round =>
    obtain ⟨k, hk, rfl, hat, hall⟩ := hrel
    by_cases hlt : k < len
    · have hsr := hs.keep RStr.ok hall
      obtain ⟨b, off, y, ha, hF, hck, hyz, hy, -, -⟩ := hsr.atStr hlt
      subst ha
      have hck0 : k = 0 → wr.cell? ⟨b, off, none⟩ = some (.string y) := fun e => by rw [e, Nat.add_zero] at hck; exact hck
      cases hkey : isKeyB y with
      | false =>
        have hfin := Lib.hid (hat.name hy hkey)
        clear hck0
        go_wp2_with fail
        refine (key_any y _ hyz).mono ?_
        rintro e w' ⟨rfl, hw⟩
        rw [hkey]
        go_wp2_with fail
        go_ret
        exact ⟨ret_int' hfin.out.symm, hall.trans hw⟩
      | true =>
        cases k with
        | zero =>
          have hnx := hat.first hy hkey
          have hck1 := hck0 rfl
          clear hck0
          go_wp2_with fail
          refine (key_any y _ hyz).mono ?_
          rintro e w' ⟨rfl, hw⟩
          rw [hkey]
          go_wp2_with fail
          go_roundw
          case rel => exact ⟨1, by omega, rfl, hnx, hall.trans hw⟩
          case measure => simp [intOf]; omega
        | succ k =>
          clear hck0
          obtain ⟨b', off', x, ha', _, hcx, hxz, hx, -, -⟩ := hsr.atStr (k := k) (by omega)
          cases ha'
          cases hle : leB y x with
          | true =>
            have hfin := Lib.hid (hat.order hx hy hkey hle)
            have hle' : (Op.bytesLess y.toList x.toList || y.toList == x.toList) = true := hle
            go_wp2_with fail
            refine (key_any y _ hyz).mono ?_
            rintro e w' ⟨rfl, hw⟩
            rw [hkey]
            have hcx' := hw.cell hcx trivial
            go_wp2_with fail
            go_ret
            exact ⟨ret_int' hfin.out.symm, hall.trans hw⟩
          | false =>
            have hnx := hat.next hx hy hkey hle
            have hle' : (Op.bytesLess y.toList x.toList || y.toList == x.toList) = false := hle
            go_wp2_with fail
            refine (key_any y _ hyz).mono ?_
            rintro e w' ⟨rfl, hw⟩
            rw [hkey]
            have hcx' := hw.cell hcx trivial
            go_wp2_with fail
            go_roundw
            case rel => exact ⟨k + 1 + 1, by omega, by go_num, hnx, hall.trans hw⟩
            case measure => simp [intOf]; omega
    · have hd : decide ((k : Int) < (len : Int)) = false := by simp; omega
      have hfin : riseF none ss = 0 := by
        rw [hat, List.drop_of_length_le (by omega)]; rfl
      have Hfin := Lib.hid hfin
      clear hfin
      go_wp2
      go_ret
      exact ⟨ret_int' Hfin.out.symm, hall⟩
end Go.Proofs.YthhmgblcccbdaaaGreatDoor
