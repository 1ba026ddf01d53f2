/- OrderOf answers ordR. -/
import Derived.Test.YtiecaedgphdfdaaGreatDoorTd
import Derived.Test.YtiecaedgphdfdaaGreatDoorTe
import Derived.Test.YtiecaedgphdfdaaGreatDoorSj
namespace Go.Proofs.YtiecaedgphdfdaaGreatDoor
open Go.RowKit

set_option maxRecDepth 100000 in
set_option maxHeartbeats 3200000 in
theorem orderOf_any (a : Option Addr) (len cap : Nat) (cs : List Int) (fl : Int) (am : Option Addr) (lm cm : Nat) (xs : List Mark3) (p q : ByteArray) (w : World)
    (hs : Sl RInt 1 (fun _ => True) w a len cs) (hl : len ≤ 1000000) (hm : Sl RMark 3 (fun _ => True) w am lm xs) (h0 : marksF xs = 0) :
    Calls Tryz.prog 30 #[.agg #[.slice a len cap, .int .i64 fl], .slice am lm cm, .string p, .string q] w fun e w' => e = .returned (.int .i64 (ordR cs (srtI (scs xs p)) (srtI (scs xs q)) p q)) ∧ All w w' := by
  obtain ⟨hx1, hx2⟩ := marksF_scores h0
  have hlm : lm ≤ 3000 := by have := hm.len; omega
  have HZ : ∀ r, (∀ z ∈ srtI (scs xs r), 0 ≤ z ∧ z ≤ 10) ∧ (srtI (scs xs r)).length ≤ 3000 := fun r => ⟨fun z hz => by obtain ⟨m, hm, rfl⟩ := scs_mem (srtI_mem.1 hz); exact hx2 m hm, by have := scs_len xs r; rw [srtI_len]; omega⟩
  have HP := Lib.hid (fun (c : Int) (wr : World) (hk : All w wr) => crit_any c am lm cm xs p wr (hm.keep RMark.ok hk) hlm hx2)
  have HQ := Lib.hid (fun (c : Int) (wr : World) (hk : All w wr) => crit_any c am lm cm xs q wr (hm.keep RMark.ok hk) hlm hx2)
  have HZP := Lib.hid (HZ p)
  have HZQ := Lib.hid (HZ q)
  have Hlen := Lib.hid hs.len
  have hk1 : All w (w.alloc (.cells #[.slice a len cap, .int .i64 fl] 52)) := Kept.alloc _ _ _
  have hrb := heap_at w (.cells #[.slice a len cap, .int .i64 fl] 52) _ rfl
  have r0 := cell_at (i := 0) hrb rfl
  clear hx1 hx2 HZ hm hlm h0
  generalize srtI (scs xs p) = x at *
  generalize srtI (scs xs q) = y at *
  go_enter Tryz.func30, Tryz.ntmps30
  go_wp2_with fail
  generalize w.alloc (.cells #[.slice a len cap, .int .i64 fl] 52) = w1 at *
  clear r0 hrb
  go_loopw [17] (fun i wr => ∃ k : Nat, k ≤ len ∧ i = .int .i64 k ∧ OrdAt cs x y p q k ∧ All w wr) (fun i _ => len - (intOf i).toNat)
  case atStart => exact ⟨0, Nat.zero_le _, rfl, OrdAt.zero _ _ _ _ _, hk1⟩
  case round =>
    obtain ⟨k, hk, rfl, hat, hall⟩ := hrel
    obtain ⟨wo, rfl⟩ : ∃ wo : World, wo = wr := ⟨_, rfl⟩
    have HA := Lib.hid hat
    clear hat
    by_cases hlt : k < len
    · obtain ⟨b, off, c, ha, -, hck, hy, -, -⟩ := (hs.keep RInt.ok hall).atInt hlt
      have Hy := Lib.hid hy
      subst ha
      clear hs hy
      obtain ⟨bx1, bx2, bx3, bx4⟩ := crit_bound (c := c) HZP.out.1 HZP.out.2
      obtain ⟨by1, by2, by3, by4⟩ := crit_bound (c := c) HZQ.out.1 HZQ.out.2
      obtain ⟨bm1, bm2⟩ := mul_bd by1 by2 bx3 bx4
      obtain ⟨bm3, bm4⟩ := mul_bd bx1 bx2 by3 by4
      have HB := Lib.hid (show betR c x y = cmpI (critN c y * critD c x) (critN c x * critD c y) from rfl)
      have HPc := Lib.hid (HP.out c)
      have HQc := Lib.hid (HQ.out c)
      generalize critN c x = xn at *
      generalize critD c x = xd at *
      generalize critN c y = yn at *
      generalize critD c y = yd at *
      by_cases hb : yn * xd = xn * yd
      · have hn := Lib.hid (HA.out.next Hy.out (by rw [HB.out]; exact cmpI_eq hb))
        have hd0 : (yn * xd - xn * yd != 0) = false := by simp; omega
        clear hb
        go_wp2_with fail
        refine (HPc.out _ hall).mono ?_
        rintro e w2 ⟨rfl, hw2⟩
        have hall2 := hall.trans hw2
        go_wp2_with fail
        refine (HQc.out _ hall2).mono ?_
        rintro e w3 ⟨rfl, hw3⟩
        have hall3 := hall2.trans hw3
        clear hw2 hw3
        go_wp2_with fail
        go_roundw
        case rel => exact ⟨k + 1, by omega, by go_num, hn.out, by repeat (first | assumption | exact Kept.refl _ _ | refine Kept.then_drew ?_ | refine Kept.then_drewN ?_ _ | refine Kept.then_alloc ?_ _ | refine Kept.then_setNew ?_ _ _ (by simp))⟩
        case measure => simp [intOf]; omega
      · have hf := Lib.hid (HA.out.hit Hy.out (by rw [HB.out]; exact fun e => hb (cmpI_zero.1 e)))
        have hd0 : (yn * xd - xn * yd != 0) = true := by simp; omega
        clear hb
        go_wp2_with fail
        refine (HPc.out _ hall).mono ?_
        rintro e w2 ⟨rfl, hw2⟩
        have hall2 := hall.trans hw2
        go_wp2_with fail
        refine (HQc.out _ hall2).mono ?_
        rintro e w3 ⟨rfl, hw3⟩
        have hall3 := hall2.trans hw3
        clear hw2 hw3
        go_wp2_with fail
        refine (sign_any _ _).mono ?_
        rintro e w' ⟨rfl, rfl⟩
        go_wp2_with fail
        go_ret
        exact ⟨ret_int' (by rw [hf.out, HB.out, cmpI_sub]), by repeat (first | assumption | exact Kept.refl _ _ | refine Kept.then_drew ?_ | refine Kept.then_drewN ?_ _ | refine Kept.then_alloc ?_ _ | refine Kept.then_setNew ?_ _ _ (by simp))⟩
    · have hd : decide ((k : Int) < (len : Int)) = false := by simp; omega
      have hf := Lib.hid (HA.out.done (by rw [Hlen.out]; omega))
      go_wp2_with fail
      refine (Tryz.strings_Compare p q _).mono ?_
      rintro e w' ⟨rfl, rfl⟩
      go_wp2_with fail
      go_ret
      exact ⟨ret_int' hf.out.symm, hall⟩
end Go.Proofs.YtiecaedgphdfdaaGreatDoor
