/- ErrataFault answers errataF. -/
import Derived.Test.YteanedcfiellkaaDoorEa
namespace Go.Proofs.YteanedcfiellkaaDoor
open Go.RowKit

set_option maxRecDepth 100000 in
set_option maxHeartbeats 12800000 in
theorem errataFault_any (a : Option Addr) (len cap : Nat) (xs : List Err5) (w : World) (hs : Sl RErr 5 (fun _ => True) w a len xs) (hl : len ≤ 1000) (hg : Glob w) :
    Calls Tryd.prog 36 #[.slice a len cap] w fun e w' => e = .returned (.int .i64 (errataF xs)) ∧ All w w' := by
  have hlen := hs.len
  by_cases h200 : 200 < len
  · have hfin := Lib.hid (errataF_large (xs := xs) (by omega))
    have d1 : decide ((200 : Int) < (len : Int)) = true := by simp; omega
    rw [hfin.out]
    clear hlen
    go_enter Tryd.func36, Tryd.ntmps36
    go_wp2_with fail
    go_ret
    exact ⟨rfl, Kept.refl _ _⟩
  · have d1 : decide ((200 : Int) < (len : Int)) = false := by simp; omega
    rw [errataF_some (xs := xs) (by omega)]
    have Hlen := Lib.hid hlen
    have HG := Lib.hid hg
    clear hlen hg
    go_enter Tryd.func36, Tryd.ntmps36
    go_wp2_with fail
    go_loopw [11] (fun i wr => ∃ k : Nat, k ≤ len ∧ i = .int .i64 k ∧ ErrAt xs k ∧ All w wr) (fun i _ => len - (intOf i).toNat)
    case atStart => exact ⟨0, Nat.zero_le _, rfl, ErrAt.zero _, Kept.refl _ _⟩
    case round =>
      obtain ⟨k, hk, rfl, hat, hall⟩ := hrel
      obtain ⟨wo, rfl⟩ : ∃ wo : World, wo = wr := ⟨_, rfl⟩
      by_cases hlt : k < len
      · obtain ⟨b, off, x, ha, -, c0, c1, c2, c3, c4, ⟨hzpaper, -, hzkey, hzold, hznew⟩, hx, -⟩ := (hs.keep RErr.ok hall).atErr hlt
        subst ha
        have HA := Lib.hid hat
        have Hx := Lib.hid hx
        clear hat hx hs d1
        have hwa := hall.then_alloc (.cells #[.string x.paper, .int .i64 x.field, .string x.key, .string x.old, .string x.new] 124)
        have hblk := heap_at wo (.cells #[.string x.paper, .int .i64 x.field, .string x.key, .string x.old, .string x.new] 124) _ rfl
        have e1 := cell_at (i := 1) hblk rfl
        have e2 := cell_at (i := 2) hblk rfl
        have e3 := cell_at (i := 3) hblk rfl
        have e4 := cell_at (i := 4) hblk rfl
        clear hblk
        by_cases hfd : x.field = 2
        · have d1 : (x.field == 1) = false := by simp [hfd]
          have d2 : (x.field == 2) = true := by simp [hfd]
          have h2 : decide ((1 : Int) ≤ x.field ∧ x.field ≤ 2) = true := by simp [hfd]
          cases h1 : isKeyB x.paper with
          | false =>
            have hfin := Lib.hid (HA.out.bad Hx.out (errF_name h1) (by decide))
            clear hfd
            go_wp2_with fail
            refine (key_any x.paper _ hzpaper).mono ?_
            rintro e w1 ⟨rfl, hw1⟩
            have a1 := hw1.cell e1 trivial
            have a2 := hw1.cell e2 trivial
            have a3 := hw1.cell e3 trivial
            have a4 := hw1.cell e4 trivial
            have hp1 := hwa.trans hw1
            rw [h1]
            clear hw1
            go_wp2_with fail
            go_ret
            exact ⟨ret_int' hfin.out.symm, hp1⟩
          | true =>
            cases h3 : isKeyB x.key with
            | false =>
              have hfin := Lib.hid (HA.out.bad Hx.out (errF_key h1 hfd h3) (by decide))
              clear hfd
              go_wp2_with fail
              refine (key_any x.paper _ hzpaper).mono ?_
              rintro e w1 ⟨rfl, hw1⟩
              have a1 := hw1.cell e1 trivial
              have a2 := hw1.cell e2 trivial
              have a3 := hw1.cell e3 trivial
              have a4 := hw1.cell e4 trivial
              have hp1 := hwa.trans hw1
              rw [h1]
              clear hw1
              go_wp2_with fail
              refine (in_any _ _ _ _).mono ?_
              rintro e w' ⟨rfl, rfl⟩
              rw [h2]
              go_wp2_with fail
              refine (key_any x.key _ hzkey).mono ?_
              rintro e wk ⟨rfl, hwk⟩
              have b3 := hwk.cell a3 trivial
              have b4 := hwk.cell a4 trivial
              have hpk := hp1.trans hwk
              rw [h3]
              clear hwk
              go_wp2_with fail
              go_ret
              exact ⟨ret_int' hfin.out.symm, hpk⟩
            | true =>
              have hrr := Lib.hid (errF_rest h1 (Or.inr ⟨hfd, h3⟩))
              have hmo : mostOf x = 100 := by unfold mostOf; simp [hfd]
              rw [hmo] at hrr
              clear hmo hfd
              cases h5 : lineB x.old 100 with
              | false =>
                have hfin := Lib.hid (HA.out.bad Hx.out (show errF x = 3 by rw [hrr.out, if_pos (Or.inl h5)]) (by decide))
                go_wp2_with fail
                refine (key_any x.paper _ hzpaper).mono ?_
                rintro e w1 ⟨rfl, hw1⟩
                have a1 := hw1.cell e1 trivial
                have a2 := hw1.cell e2 trivial
                have a3 := hw1.cell e3 trivial
                have a4 := hw1.cell e4 trivial
                have hp1 := hwa.trans hw1
                rw [h1]
                clear hw1
                go_wp2_with fail
                refine (in_any _ _ _ _).mono ?_
                rintro e w' ⟨rfl, rfl⟩
                rw [h2]
                go_wp2_with fail
                refine (key_any x.key _ hzkey).mono ?_
                rintro e wk ⟨rfl, hwk⟩
                have b3 := hwk.cell a3 trivial
                have b4 := hwk.cell a4 trivial
                have hpk := hp1.trans hwk
                rw [h3]
                clear hwk
                go_wp2_with fail
                refine (named_any x.old 100 _ hzold (HG.out.keep hpk)).mono ?_
                rintro e w2 ⟨rfl, hw2⟩
                have k23 := hw2.cell b3 trivial
                have k24 := hw2.cell b4 trivial
                have hp2 := hpk.trans hw2
                rw [h5]
                clear hw2
                go_wp2_with fail
                go_ret
                exact ⟨ret_int' hfin.out.symm, hp2⟩
              | true =>
                cases h6 : lineB x.new 100 with
                | false =>
                  have hfin := Lib.hid (HA.out.bad Hx.out (show errF x = 3 by rw [hrr.out, if_pos (Or.inr h6)]) (by decide))
                  go_wp2_with fail
                  refine (key_any x.paper _ hzpaper).mono ?_
                  rintro e w1 ⟨rfl, hw1⟩
                  have a1 := hw1.cell e1 trivial
                  have a2 := hw1.cell e2 trivial
                  have a3 := hw1.cell e3 trivial
                  have a4 := hw1.cell e4 trivial
                  have hp1 := hwa.trans hw1
                  rw [h1]
                  clear hw1
                  go_wp2_with fail
                  refine (in_any _ _ _ _).mono ?_
                  rintro e w' ⟨rfl, rfl⟩
                  rw [h2]
                  go_wp2_with fail
                  refine (key_any x.key _ hzkey).mono ?_
                  rintro e wk ⟨rfl, hwk⟩
                  have b3 := hwk.cell a3 trivial
                  have b4 := hwk.cell a4 trivial
                  have hpk := hp1.trans hwk
                  rw [h3]
                  clear hwk
                  go_wp2_with fail
                  refine (named_any x.old 100 _ hzold (HG.out.keep hpk)).mono ?_
                  rintro e w2 ⟨rfl, hw2⟩
                  have k23 := hw2.cell b3 trivial
                  have k24 := hw2.cell b4 trivial
                  have hp2 := hpk.trans hw2
                  rw [h5]
                  clear hw2
                  go_wp2_with fail
                  refine (named_any x.new 100 _ hznew (HG.out.keep hp2)).mono ?_
                  rintro e w3 ⟨rfl, hw3⟩
                  have k33 := hw3.cell k23 trivial
                  have k34 := hw3.cell k24 trivial
                  have hp3 := hp2.trans hw3
                  rw [h6]
                  clear hw3
                  go_wp2_with fail
                  go_ret
                  exact ⟨ret_int' hfin.out.symm, hp3⟩
                | true =>
                  by_cases h7 : x.old = x.new
                  · have hfin := Lib.hid (HA.out.bad Hx.out (show errF x = 14 by rw [hrr.out, if_neg (by simp [h5, h6]), if_pos h7]) (by decide))
                    have d7 : (x.old.toList == x.new.toList) = true := by simp [h7]
                    clear h7
                    go_wp2_with fail
                    refine (key_any x.paper _ hzpaper).mono ?_
                    rintro e w1 ⟨rfl, hw1⟩
                    have a1 := hw1.cell e1 trivial
                    have a2 := hw1.cell e2 trivial
                    have a3 := hw1.cell e3 trivial
                    have a4 := hw1.cell e4 trivial
                    have hp1 := hwa.trans hw1
                    rw [h1]
                    clear hw1
                    go_wp2_with fail
                    refine (in_any _ _ _ _).mono ?_
                    rintro e w' ⟨rfl, rfl⟩
                    rw [h2]
                    go_wp2_with fail
                    refine (key_any x.key _ hzkey).mono ?_
                    rintro e wk ⟨rfl, hwk⟩
                    have b3 := hwk.cell a3 trivial
                    have b4 := hwk.cell a4 trivial
                    have hpk := hp1.trans hwk
                    rw [h3]
                    clear hwk
                    go_wp2_with fail
                    refine (named_any x.old 100 _ hzold (HG.out.keep hpk)).mono ?_
                    rintro e w2 ⟨rfl, hw2⟩
                    have k23 := hw2.cell b3 trivial
                    have k24 := hw2.cell b4 trivial
                    have hp2 := hpk.trans hw2
                    rw [h5]
                    clear hw2
                    go_wp2_with fail
                    refine (named_any x.new 100 _ hznew (HG.out.keep hp2)).mono ?_
                    rintro e w3 ⟨rfl, hw3⟩
                    have k33 := hw3.cell k23 trivial
                    have k34 := hw3.cell k24 trivial
                    have hp3 := hp2.trans hw3
                    rw [h6]
                    clear hw3
                    go_wp2_with fail
                    go_ret
                    exact ⟨ret_int' hfin.out.symm, hp3⟩
                  · have hnx := Lib.hid (HA.out.next Hx.out (show errF x = 0 by rw [hrr.out, if_neg (by simp [h5, h6]), if_neg h7]))
                    have d7 : (x.old.toList == x.new.toList) = false := by simp; exact fun e => h7 (bytes_ext e)
                    clear h7
                    go_wp2_with fail
                    refine (key_any x.paper _ hzpaper).mono ?_
                    rintro e w1 ⟨rfl, hw1⟩
                    have a1 := hw1.cell e1 trivial
                    have a2 := hw1.cell e2 trivial
                    have a3 := hw1.cell e3 trivial
                    have a4 := hw1.cell e4 trivial
                    have hp1 := hwa.trans hw1
                    rw [h1]
                    clear hw1
                    go_wp2_with fail
                    refine (in_any _ _ _ _).mono ?_
                    rintro e w' ⟨rfl, rfl⟩
                    rw [h2]
                    go_wp2_with fail
                    refine (key_any x.key _ hzkey).mono ?_
                    rintro e wk ⟨rfl, hwk⟩
                    have b3 := hwk.cell a3 trivial
                    have b4 := hwk.cell a4 trivial
                    have hpk := hp1.trans hwk
                    rw [h3]
                    clear hwk
                    go_wp2_with fail
                    refine (named_any x.old 100 _ hzold (HG.out.keep hpk)).mono ?_
                    rintro e w2 ⟨rfl, hw2⟩
                    have k23 := hw2.cell b3 trivial
                    have k24 := hw2.cell b4 trivial
                    have hp2 := hpk.trans hw2
                    rw [h5]
                    clear hw2
                    go_wp2_with fail
                    refine (named_any x.new 100 _ hznew (HG.out.keep hp2)).mono ?_
                    rintro e w3 ⟨rfl, hw3⟩
                    have k33 := hw3.cell k23 trivial
                    have k34 := hw3.cell k24 trivial
                    have hp3 := hp2.trans hw3
                    rw [h6]
                    clear hw3
                    go_wp2_with fail
                    go_roundw
                    case rel => exact ⟨k + 1, by omega, by go_num, hnx.out, hp3⟩
                    case measure => simp [intOf]; omega
        · have d2 : (x.field == 2) = false := by simp [hfd]
          cases h1 : isKeyB x.paper with
          | false =>
            have hfin := Lib.hid (HA.out.bad Hx.out (errF_name h1) (by decide))
            clear hfd
            go_wp2_with fail
            refine (key_any x.paper _ hzpaper).mono ?_
            rintro e w1 ⟨rfl, hw1⟩
            have a1 := hw1.cell e1 trivial
            have a2 := hw1.cell e2 trivial
            have a3 := hw1.cell e3 trivial
            have a4 := hw1.cell e4 trivial
            have hp1 := hwa.trans hw1
            rw [h1]
            clear hw1
            go_wp2_with fail
            go_ret
            exact ⟨ret_int' hfin.out.symm, hp1⟩
          | true =>
            by_cases hf1 : x.field = 1
            · have d1 : (x.field == 1) = true := by simp [hf1]
              have h2 : decide ((1 : Int) ≤ x.field ∧ x.field ≤ 2) = true := by simp [hf1]
              by_cases hky : x.key.size = 0
              · have he : x.key.toList = [] := toList_nil hky
                have hd : x.key.toList.isEmpty = true := by simp [he]
                have hor := Lib.hid (show (x.field = 1 ∧ x.key.size = 0) ∨ (x.field = 2 ∧ isKeyB x.key = true) from Or.inl ⟨hf1, hky⟩)
                clear hf1 hky
                have hrr := Lib.hid (errF_rest h1 (hor.out))
                have hmo : mostOf x = 200 := by unfold mostOf; simp [hfd]
                rw [hmo] at hrr
                clear hmo hfd
                cases h5 : lineB x.old 200 with
                | false =>
                  have hfin := Lib.hid (HA.out.bad Hx.out (show errF x = 3 by rw [hrr.out, if_pos (Or.inl h5)]) (by decide))
                  go_wp2_with fail
                  refine (key_any x.paper _ hzpaper).mono ?_
                  rintro e w1 ⟨rfl, hw1⟩
                  have a1 := hw1.cell e1 trivial
                  have a2 := hw1.cell e2 trivial
                  have a3 := hw1.cell e3 trivial
                  have a4 := hw1.cell e4 trivial
                  have hp1 := hwa.trans hw1
                  rw [h1]
                  clear hw1
                  go_wp2_with fail
                  refine (in_any _ _ _ _).mono ?_
                  rintro e w' ⟨rfl, rfl⟩
                  rw [h2]
                  have b3 := a3
                  have b4 := a4
                  have hpk := hp1
                  go_wp2_with fail
                  refine (named_any x.old 200 _ hzold (HG.out.keep hpk)).mono ?_
                  rintro e w2 ⟨rfl, hw2⟩
                  have k23 := hw2.cell b3 trivial
                  have k24 := hw2.cell b4 trivial
                  have hp2 := hpk.trans hw2
                  rw [h5]
                  clear hw2
                  go_wp2_with fail
                  go_ret
                  exact ⟨ret_int' hfin.out.symm, hp2⟩
                | true =>
                  cases h6 : lineB x.new 200 with
                  | false =>
                    have hfin := Lib.hid (HA.out.bad Hx.out (show errF x = 3 by rw [hrr.out, if_pos (Or.inr h6)]) (by decide))
                    go_wp2_with fail
                    refine (key_any x.paper _ hzpaper).mono ?_
                    rintro e w1 ⟨rfl, hw1⟩
                    have a1 := hw1.cell e1 trivial
                    have a2 := hw1.cell e2 trivial
                    have a3 := hw1.cell e3 trivial
                    have a4 := hw1.cell e4 trivial
                    have hp1 := hwa.trans hw1
                    rw [h1]
                    clear hw1
                    go_wp2_with fail
                    refine (in_any _ _ _ _).mono ?_
                    rintro e w' ⟨rfl, rfl⟩
                    rw [h2]
                    have b3 := a3
                    have b4 := a4
                    have hpk := hp1
                    go_wp2_with fail
                    refine (named_any x.old 200 _ hzold (HG.out.keep hpk)).mono ?_
                    rintro e w2 ⟨rfl, hw2⟩
                    have k23 := hw2.cell b3 trivial
                    have k24 := hw2.cell b4 trivial
                    have hp2 := hpk.trans hw2
                    rw [h5]
                    clear hw2
                    go_wp2_with fail
                    refine (named_any x.new 200 _ hznew (HG.out.keep hp2)).mono ?_
                    rintro e w3 ⟨rfl, hw3⟩
                    have k33 := hw3.cell k23 trivial
                    have k34 := hw3.cell k24 trivial
                    have hp3 := hp2.trans hw3
                    rw [h6]
                    clear hw3
                    go_wp2_with fail
                    go_ret
                    exact ⟨ret_int' hfin.out.symm, hp3⟩
                  | true =>
                    by_cases h7 : x.old = x.new
                    · have hfin := Lib.hid (HA.out.bad Hx.out (show errF x = 14 by rw [hrr.out, if_neg (by simp [h5, h6]), if_pos h7]) (by decide))
                      have d7 : (x.old.toList == x.new.toList) = true := by simp [h7]
                      clear h7
                      go_wp2_with fail
                      refine (key_any x.paper _ hzpaper).mono ?_
                      rintro e w1 ⟨rfl, hw1⟩
                      have a1 := hw1.cell e1 trivial
                      have a2 := hw1.cell e2 trivial
                      have a3 := hw1.cell e3 trivial
                      have a4 := hw1.cell e4 trivial
                      have hp1 := hwa.trans hw1
                      rw [h1]
                      clear hw1
                      go_wp2_with fail
                      refine (in_any _ _ _ _).mono ?_
                      rintro e w' ⟨rfl, rfl⟩
                      rw [h2]
                      have b3 := a3
                      have b4 := a4
                      have hpk := hp1
                      go_wp2_with fail
                      refine (named_any x.old 200 _ hzold (HG.out.keep hpk)).mono ?_
                      rintro e w2 ⟨rfl, hw2⟩
                      have k23 := hw2.cell b3 trivial
                      have k24 := hw2.cell b4 trivial
                      have hp2 := hpk.trans hw2
                      rw [h5]
                      clear hw2
                      go_wp2_with fail
                      refine (named_any x.new 200 _ hznew (HG.out.keep hp2)).mono ?_
                      rintro e w3 ⟨rfl, hw3⟩
                      have k33 := hw3.cell k23 trivial
                      have k34 := hw3.cell k24 trivial
                      have hp3 := hp2.trans hw3
                      rw [h6]
                      clear hw3
                      go_wp2_with fail
                      go_ret
                      exact ⟨ret_int' hfin.out.symm, hp3⟩
                    · have hnx := Lib.hid (HA.out.next Hx.out (show errF x = 0 by rw [hrr.out, if_neg (by simp [h5, h6]), if_neg h7]))
                      have d7 : (x.old.toList == x.new.toList) = false := by simp; exact fun e => h7 (bytes_ext e)
                      clear h7
                      go_wp2_with fail
                      refine (key_any x.paper _ hzpaper).mono ?_
                      rintro e w1 ⟨rfl, hw1⟩
                      have a1 := hw1.cell e1 trivial
                      have a2 := hw1.cell e2 trivial
                      have a3 := hw1.cell e3 trivial
                      have a4 := hw1.cell e4 trivial
                      have hp1 := hwa.trans hw1
                      rw [h1]
                      clear hw1
                      go_wp2_with fail
                      refine (in_any _ _ _ _).mono ?_
                      rintro e w' ⟨rfl, rfl⟩
                      rw [h2]
                      have b3 := a3
                      have b4 := a4
                      have hpk := hp1
                      go_wp2_with fail
                      refine (named_any x.old 200 _ hzold (HG.out.keep hpk)).mono ?_
                      rintro e w2 ⟨rfl, hw2⟩
                      have k23 := hw2.cell b3 trivial
                      have k24 := hw2.cell b4 trivial
                      have hp2 := hpk.trans hw2
                      rw [h5]
                      clear hw2
                      go_wp2_with fail
                      refine (named_any x.new 200 _ hznew (HG.out.keep hp2)).mono ?_
                      rintro e w3 ⟨rfl, hw3⟩
                      have k33 := hw3.cell k23 trivial
                      have k34 := hw3.cell k24 trivial
                      have hp3 := hp2.trans hw3
                      rw [h6]
                      clear hw3
                      go_wp2_with fail
                      go_roundw
                      case rel => exact ⟨k + 1, by omega, by go_num, hnx.out, hp3⟩
                      case measure => simp [intOf]; omega
              · have hfin := Lib.hid (HA.out.bad Hx.out (errF_title h1 hf1 hky) (by decide))
                have he : x.key.toList ≠ [] := toList_ne hky
                have hd : x.key.toList.isEmpty = false := by simpa using he
                clear hfd hf1 hky
                go_wp2_with fail
                refine (key_any x.paper _ hzpaper).mono ?_
                rintro e w1 ⟨rfl, hw1⟩
                have a1 := hw1.cell e1 trivial
                have a2 := hw1.cell e2 trivial
                have a3 := hw1.cell e3 trivial
                have a4 := hw1.cell e4 trivial
                have hp1 := hwa.trans hw1
                rw [h1]
                clear hw1
                go_wp2_with fail
                refine (in_any _ _ _ _).mono ?_
                rintro e w' ⟨rfl, rfl⟩
                rw [h2]
                go_wp2_with fail
                go_ret
                exact ⟨ret_int' hfin.out.symm, hp1⟩
            · have hfin := Lib.hid (HA.out.bad Hx.out (errF_kind h1 (by omega)) (by decide))
              have h2 : decide ((1 : Int) ≤ x.field ∧ x.field ≤ 2) = false := by simp; omega
              clear hfd hf1
              go_wp2_with fail
              refine (key_any x.paper _ hzpaper).mono ?_
              rintro e w1 ⟨rfl, hw1⟩
              have a1 := hw1.cell e1 trivial
              have a2 := hw1.cell e2 trivial
              have a3 := hw1.cell e3 trivial
              have a4 := hw1.cell e4 trivial
              have hp1 := hwa.trans hw1
              rw [h1]
              clear hw1
              go_wp2_with fail
              refine (in_any _ _ _ _).mono ?_
              rintro e w' ⟨rfl, rfl⟩
              rw [h2]
              go_wp2_with fail
              go_ret
              exact ⟨ret_int' hfin.out.symm, hp1⟩
      · have hd : decide ((k : Int) < (len : Int)) = false := by simp; omega
        have hfin := Lib.hid (hat.ok (by have := Hlen.out; omega))
        go_wp2_with fail
        go_ret
        exact ⟨ret_int' hfin.out.symm, hall⟩
end Go.Proofs.YteanedcfiellkaaDoor
