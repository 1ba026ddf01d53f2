/- erratumFault answers errF, CheckErrata answers errataF. -/
import Derived.Test.YteanedcfiellkaaDoorEa
namespace Go.Proofs.YteanedcfiellkaaDoor
open Go.RowKit

set_option maxRecDepth 100000 in
set_option maxHeartbeats 6400000 in
theorem erratumFault_any (x : Err5) (w : World) (hsm : ErrSmall x) (hg : Glob w) :
    Calls Tryd.prog 89 #[.agg #[.string x.paper, .int .i64 x.field, .string x.key, .string x.old, .string x.new]] w fun e w' => e = .returned (.int .i64 (errF x)) ∧ All w w' := by
  obtain ⟨hzpaper, -, hzkey, hzold, hznew⟩ := hsm
  have hk0 : All w (w.alloc (.cells #[.string x.paper, .int .i64 x.field, .string x.key, .string x.old, .string x.new] 124)) := Kept.alloc _ _ _
  have hblk := heap_at w (.cells #[.string x.paper, .int .i64 x.field, .string x.key, .string x.old, .string x.new] 124) _ rfl
  have e3 := cell_at (i := 3) hblk rfl
  have e4 := cell_at (i := 4) hblk rfl
  clear hblk
  cases h1 : isKeyB x.paper with
  | false =>
    have hfin := Lib.hid (errF_name h1)
    go_enter Tryd.func89, Tryd.ntmps89
    go_wp2_with fail
    refine (isKey_any x.paper _ (by omega)).mono ?_
    rintro e w' ⟨rfl, rfl⟩
    rw [h1]
    go_wp2_with fail
    go_ret
    exact ⟨ret_int' hfin.out.symm, hk0⟩
  | true =>
    by_cases hout : x.field < 1 ∨ 2 < x.field
    · have hfin := Lib.hid (errF_kind h1 hout)
      have h2 : decide (x.field < 1 ∨ 2 < x.field) = true := by simpa using hout
      clear hout
      go_enter Tryd.func89, Tryd.ntmps89
      go_wp2_with fail
      refine (isKey_any x.paper _ (by omega)).mono ?_
      rintro e w' ⟨rfl, rfl⟩
      rw [h1]
      go_wp2_with fail
      refine (outside_any _ _ _ _).mono ?_
      rintro e w' ⟨rfl, rfl⟩
      rw [h2]
      go_wp2_with fail
      go_ret
      exact ⟨ret_int' hfin.out.symm, hk0⟩
    · have h2 : decide (x.field < 1 ∨ 2 < x.field) = false := by simpa using hout
      by_cases hfd : x.field = 1
      · have d1 : (x.field == 1) = true := by simp [hfd]
        have d2 : (x.field == 2) = false := by simp [hfd]
        by_cases hk : x.key.size = 0
        · have he : x.key.toList = [] := toList_nil hk
          have hd : x.key.toList.isEmpty = true := by simp [he]
          clear hout
          have hrr := Lib.hid (errF_rest h1 (Or.inl ⟨hfd, hk⟩))
          have hmo : mostOf x = 200 := by unfold mostOf; simp [hfd]
          rw [hmo] at hrr
          clear hmo
          cases h5 : lineB x.old 200 with
          | false =>
            have hfin := Lib.hid (show errF x = 3 by rw [hrr.out, if_pos (Or.inl h5)])
            clear hfd
            go_enter Tryd.func89, Tryd.ntmps89
            go_wp2_with fail
            refine (isKey_any x.paper _ (by omega)).mono ?_
            rintro e w' ⟨rfl, rfl⟩
            rw [h1]
            go_wp2_with fail
            refine (outside_any _ _ _ _).mono ?_
            rintro e w' ⟨rfl, rfl⟩
            rw [h2]
            go_wp2_with fail
            refine (isLine_any x.old 200 _ hzold (hg.keep hk0)).mono ?_
            rintro e w2 ⟨rfl, hw2⟩
            have k23 := hw2.cell e3 trivial
            have k24 := hw2.cell e4 trivial
            have hp2 := hk0.trans hw2
            rw [h5]
            go_wp2_with fail
            go_ret
            exact ⟨ret_int' hfin.out.symm, hp2⟩
          | true =>
            cases h6 : lineB x.new 200 with
            | false =>
              have hfin := Lib.hid (show errF x = 3 by rw [hrr.out, if_pos (Or.inr h6)])
              clear hfd
              go_enter Tryd.func89, Tryd.ntmps89
              go_wp2_with fail
              refine (isKey_any x.paper _ (by omega)).mono ?_
              rintro e w' ⟨rfl, rfl⟩
              rw [h1]
              go_wp2_with fail
              refine (outside_any _ _ _ _).mono ?_
              rintro e w' ⟨rfl, rfl⟩
              rw [h2]
              go_wp2_with fail
              refine (isLine_any x.old 200 _ hzold (hg.keep hk0)).mono ?_
              rintro e w2 ⟨rfl, hw2⟩
              have k23 := hw2.cell e3 trivial
              have k24 := hw2.cell e4 trivial
              have hp2 := hk0.trans hw2
              rw [h5]
              go_wp2_with fail
              refine (isLine_any x.new 200 _ hznew (hg.keep hp2)).mono ?_
              rintro e w3 ⟨rfl, hw3⟩
              have k33 := hw3.cell k23 trivial
              have k34 := hw3.cell k24 trivial
              have hp3 := hp2.trans hw3
              rw [h6]
              go_wp2_with fail
              go_ret
              exact ⟨ret_int' hfin.out.symm, hp3⟩
            | true =>
              by_cases h7 : x.old = x.new
              · have hfin := Lib.hid (show errF x = 14 by rw [hrr.out, if_neg (by simp [h5, h6]), if_pos h7])
                have d7 : (x.old.toList == x.new.toList) = true := by simp [h7]
                clear hfd h7
                go_enter Tryd.func89, Tryd.ntmps89
                go_wp2_with fail
                refine (isKey_any x.paper _ (by omega)).mono ?_
                rintro e w' ⟨rfl, rfl⟩
                rw [h1]
                go_wp2_with fail
                refine (outside_any _ _ _ _).mono ?_
                rintro e w' ⟨rfl, rfl⟩
                rw [h2]
                go_wp2_with fail
                refine (isLine_any x.old 200 _ hzold (hg.keep hk0)).mono ?_
                rintro e w2 ⟨rfl, hw2⟩
                have k23 := hw2.cell e3 trivial
                have k24 := hw2.cell e4 trivial
                have hp2 := hk0.trans hw2
                rw [h5]
                go_wp2_with fail
                refine (isLine_any x.new 200 _ hznew (hg.keep hp2)).mono ?_
                rintro e w3 ⟨rfl, hw3⟩
                have k33 := hw3.cell k23 trivial
                have k34 := hw3.cell k24 trivial
                have hp3 := hp2.trans hw3
                rw [h6]
                go_wp2_with fail
                go_ret
                exact ⟨ret_int' hfin.out.symm, hp3⟩
              · have hfin := Lib.hid (show errF x = 0 by rw [hrr.out, if_neg (by simp [h5, h6]), if_neg h7])
                have d7 : (x.old.toList == x.new.toList) = false := by simp; exact fun e => h7 (bytes_ext e)
                clear hfd h7
                go_enter Tryd.func89, Tryd.ntmps89
                go_wp2_with fail
                refine (isKey_any x.paper _ (by omega)).mono ?_
                rintro e w' ⟨rfl, rfl⟩
                rw [h1]
                go_wp2_with fail
                refine (outside_any _ _ _ _).mono ?_
                rintro e w' ⟨rfl, rfl⟩
                rw [h2]
                go_wp2_with fail
                refine (isLine_any x.old 200 _ hzold (hg.keep hk0)).mono ?_
                rintro e w2 ⟨rfl, hw2⟩
                have k23 := hw2.cell e3 trivial
                have k24 := hw2.cell e4 trivial
                have hp2 := hk0.trans hw2
                rw [h5]
                go_wp2_with fail
                refine (isLine_any x.new 200 _ hznew (hg.keep hp2)).mono ?_
                rintro e w3 ⟨rfl, hw3⟩
                have k33 := hw3.cell k23 trivial
                have k34 := hw3.cell k24 trivial
                have hp3 := hp2.trans hw3
                rw [h6]
                go_wp2_with fail
                go_ret
                exact ⟨ret_int' hfin.out.symm, hp3⟩
        · have hfin := Lib.hid (errF_title h1 hfd hk)
          have he : x.key.toList ≠ [] := toList_ne hk
          have hd : x.key.toList.isEmpty = false := by simpa using he
          clear hout hfd hk
          go_enter Tryd.func89, Tryd.ntmps89
          go_wp2_with fail
          refine (isKey_any x.paper _ (by omega)).mono ?_
          rintro e w' ⟨rfl, rfl⟩
          rw [h1]
          go_wp2_with fail
          refine (outside_any _ _ _ _).mono ?_
          rintro e w' ⟨rfl, rfl⟩
          rw [h2]
          go_wp2_with fail
          go_ret
          exact ⟨ret_int' hfin.out.symm, hk0⟩
      · have hf2 : x.field = 2 := by omega
        have d1 : (x.field == 1) = false := by simp [hfd]
        have d2 : (x.field == 2) = true := by simp [hf2]
        replace hfd := hf2
        clear hf2 hout
        cases h3 : isKeyB x.key with
        | false =>
          have hfin := Lib.hid (errF_key h1 hfd h3)
          clear hfd
          go_enter Tryd.func89, Tryd.ntmps89
          go_wp2_with fail
          refine (isKey_any x.paper _ (by omega)).mono ?_
          rintro e w' ⟨rfl, rfl⟩
          rw [h1]
          go_wp2_with fail
          refine (outside_any _ _ _ _).mono ?_
          rintro e w' ⟨rfl, rfl⟩
          rw [h2]
          go_wp2_with fail
          refine (isKey_any x.key _ (by omega)).mono ?_
          rintro e w' ⟨rfl, rfl⟩
          rw [h3]
          go_wp2_with fail
          go_ret
          exact ⟨ret_int' hfin.out.symm, hk0⟩
        | true =>
          have hrr := Lib.hid (errF_rest h1 (Or.inr ⟨hfd, h3⟩))
          have hmo : mostOf x = 100 := by unfold mostOf; simp [hfd]
          rw [hmo] at hrr
          clear hmo
          cases h5 : lineB x.old 100 with
          | false =>
            have hfin := Lib.hid (show errF x = 3 by rw [hrr.out, if_pos (Or.inl h5)])
            clear hfd
            go_enter Tryd.func89, Tryd.ntmps89
            go_wp2_with fail
            refine (isKey_any x.paper _ (by omega)).mono ?_
            rintro e w' ⟨rfl, rfl⟩
            rw [h1]
            go_wp2_with fail
            refine (outside_any _ _ _ _).mono ?_
            rintro e w' ⟨rfl, rfl⟩
            rw [h2]
            go_wp2_with fail
            refine (isKey_any x.key _ (by omega)).mono ?_
            rintro e w' ⟨rfl, rfl⟩
            rw [h3]
            go_wp2_with fail
            refine (isLine_any x.old 100 _ hzold (hg.keep hk0)).mono ?_
            rintro e w2 ⟨rfl, hw2⟩
            have k23 := hw2.cell e3 trivial
            have k24 := hw2.cell e4 trivial
            have hp2 := hk0.trans hw2
            rw [h5]
            go_wp2_with fail
            go_ret
            exact ⟨ret_int' hfin.out.symm, hp2⟩
          | true =>
            cases h6 : lineB x.new 100 with
            | false =>
              have hfin := Lib.hid (show errF x = 3 by rw [hrr.out, if_pos (Or.inr h6)])
              clear hfd
              go_enter Tryd.func89, Tryd.ntmps89
              go_wp2_with fail
              refine (isKey_any x.paper _ (by omega)).mono ?_
              rintro e w' ⟨rfl, rfl⟩
              rw [h1]
              go_wp2_with fail
              refine (outside_any _ _ _ _).mono ?_
              rintro e w' ⟨rfl, rfl⟩
              rw [h2]
              go_wp2_with fail
              refine (isKey_any x.key _ (by omega)).mono ?_
              rintro e w' ⟨rfl, rfl⟩
              rw [h3]
              go_wp2_with fail
              refine (isLine_any x.old 100 _ hzold (hg.keep hk0)).mono ?_
              rintro e w2 ⟨rfl, hw2⟩
              have k23 := hw2.cell e3 trivial
              have k24 := hw2.cell e4 trivial
              have hp2 := hk0.trans hw2
              rw [h5]
              go_wp2_with fail
              refine (isLine_any x.new 100 _ hznew (hg.keep hp2)).mono ?_
              rintro e w3 ⟨rfl, hw3⟩
              have k33 := hw3.cell k23 trivial
              have k34 := hw3.cell k24 trivial
              have hp3 := hp2.trans hw3
              rw [h6]
              go_wp2_with fail
              go_ret
              exact ⟨ret_int' hfin.out.symm, hp3⟩
            | true =>
              by_cases h7 : x.old = x.new
              · have hfin := Lib.hid (show errF x = 14 by rw [hrr.out, if_neg (by simp [h5, h6]), if_pos h7])
                have d7 : (x.old.toList == x.new.toList) = true := by simp [h7]
                clear hfd h7
                go_enter Tryd.func89, Tryd.ntmps89
                go_wp2_with fail
                refine (isKey_any x.paper _ (by omega)).mono ?_
                rintro e w' ⟨rfl, rfl⟩
                rw [h1]
                go_wp2_with fail
                refine (outside_any _ _ _ _).mono ?_
                rintro e w' ⟨rfl, rfl⟩
                rw [h2]
                go_wp2_with fail
                refine (isKey_any x.key _ (by omega)).mono ?_
                rintro e w' ⟨rfl, rfl⟩
                rw [h3]
                go_wp2_with fail
                refine (isLine_any x.old 100 _ hzold (hg.keep hk0)).mono ?_
                rintro e w2 ⟨rfl, hw2⟩
                have k23 := hw2.cell e3 trivial
                have k24 := hw2.cell e4 trivial
                have hp2 := hk0.trans hw2
                rw [h5]
                go_wp2_with fail
                refine (isLine_any x.new 100 _ hznew (hg.keep hp2)).mono ?_
                rintro e w3 ⟨rfl, hw3⟩
                have k33 := hw3.cell k23 trivial
                have k34 := hw3.cell k24 trivial
                have hp3 := hp2.trans hw3
                rw [h6]
                go_wp2_with fail
                go_ret
                exact ⟨ret_int' hfin.out.symm, hp3⟩
              · have hfin := Lib.hid (show errF x = 0 by rw [hrr.out, if_neg (by simp [h5, h6]), if_neg h7])
                have d7 : (x.old.toList == x.new.toList) = false := by simp; exact fun e => h7 (bytes_ext e)
                clear hfd h7
                go_enter Tryd.func89, Tryd.ntmps89
                go_wp2_with fail
                refine (isKey_any x.paper _ (by omega)).mono ?_
                rintro e w' ⟨rfl, rfl⟩
                rw [h1]
                go_wp2_with fail
                refine (outside_any _ _ _ _).mono ?_
                rintro e w' ⟨rfl, rfl⟩
                rw [h2]
                go_wp2_with fail
                refine (isKey_any x.key _ (by omega)).mono ?_
                rintro e w' ⟨rfl, rfl⟩
                rw [h3]
                go_wp2_with fail
                refine (isLine_any x.old 100 _ hzold (hg.keep hk0)).mono ?_
                rintro e w2 ⟨rfl, hw2⟩
                have k23 := hw2.cell e3 trivial
                have k24 := hw2.cell e4 trivial
                have hp2 := hk0.trans hw2
                rw [h5]
                go_wp2_with fail
                refine (isLine_any x.new 100 _ hznew (hg.keep hp2)).mono ?_
                rintro e w3 ⟨rfl, hw3⟩
                have k33 := hw3.cell k23 trivial
                have k34 := hw3.cell k24 trivial
                have hp3 := hp2.trans hw3
                rw [h6]
                go_wp2_with fail
                go_ret
                exact ⟨ret_int' hfin.out.symm, hp3⟩

set_option maxRecDepth 100000 in
set_option maxHeartbeats 3200000 in
theorem checkErrata_any (a : Option Addr) (len cap : Nat) (xs : List Err5) (w : World) (hs : Sl RErr 5 (fun _ => True) w a len xs) (hl : len ≤ 1000) (hg : Glob w) :
    Calls Tryd.prog 35 #[.slice a len cap] w fun e w' => e = .returned (.int .i64 (errataF xs)) ∧ All w w' := by
  have hlen := hs.len
  by_cases h200 : 200 < len
  · have hfin := Lib.hid (errataF_large (xs := xs) (by omega))
    have d1 : decide ((200 : Int) < (len : Int)) = true := by simp; omega
    rw [hfin.out]
    clear hlen
    go_enter Tryd.func35, Tryd.ntmps35
    go_wp2_with fail
    go_ret
    exact ⟨rfl, Kept.refl _ _⟩
  · have d1 : decide ((200 : Int) < (len : Int)) = false := by simp; omega
    rw [errataF_some (xs := xs) (by omega)]
    have Hlen := Lib.hid hlen
    have HG := Lib.hid hg
    clear hlen hg
    go_enter Tryd.func35, Tryd.ntmps35
    go_wp2_with fail
    go_loopw [11] (fun i wr => ∃ k : Nat, k ≤ len ∧ i = .int .i64 k ∧ ErrAt xs k ∧ All w wr) (fun i _ => len - (intOf i).toNat)
    case atStart => exact ⟨0, Nat.zero_le _, rfl, ErrAt.zero _, Kept.refl _ _⟩
    case round =>
      obtain ⟨k, hk, rfl, hat, hall⟩ := hrel
      obtain ⟨wo, rfl⟩ : ∃ wo : World, wo = wr := ⟨_, rfl⟩
      by_cases hlt : k < len
      · obtain ⟨b, off, x, ha, -, c0, c1, c2, c3, c4, hsm, hx, -⟩ := (hs.keep RErr.ok hall).atErr hlt
        subst ha
        have HA := Lib.hid hat
        have Hx := Lib.hid hx
        clear hat hx hs
        have hwa := hall.then_alloc (.cells #[.string x.paper, .int .i64 x.field, .string x.key, .string x.old, .string x.new] 124)
        by_cases h5 : errF x = 0
        · have d5 : (errF x != 0) = false := by simp [h5]
          have hnx := Lib.hid (HA.out.next Hx.out h5)
          clear h5
          go_wp2_with fail
          refine (erratumFault_any x _ hsm (HG.out.keep hwa)).mono ?_
          rintro e w2 ⟨rfl, hw2⟩
          go_wp2_with fail
          go_roundw
          case rel => exact ⟨k + 1, by omega, by go_num, hnx.out, hwa.trans hw2⟩
          case measure => simp [intOf]; omega
        · have d5 : (errF x != 0) = true := by simp [h5]
          have hfin := Lib.hid (HA.out.bad Hx.out rfl h5)
          clear h5
          go_wp2_with fail
          refine (erratumFault_any x _ hsm (HG.out.keep hwa)).mono ?_
          rintro e w2 ⟨rfl, hw2⟩
          go_wp2_with fail
          go_ret
          exact ⟨ret_int' hfin.out.symm, hwa.trans hw2⟩
      · have hd : decide ((k : Int) < (len : Int)) = false := by simp; omega
        have hfin := Lib.hid (hat.ok (by have := Hlen.out; omega))
        go_wp2_with fail
        go_ret
        exact ⟨ret_int' hfin.out.symm, hall⟩
end Go.Proofs.YteanedcfiellkaaDoor
