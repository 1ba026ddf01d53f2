/- CorrectOf applies errata. -/
import Derived.Test.YteanedcfiellkaaDoorEl
namespace Go.Proofs.YteanedcfiellkaaDoor
open Go.RowKit

theorem correct1_any (kp : Nat) (key : ByteArray) (y : Cred) (w : World) (ck : w.cell? ⟨kp, 2, none⟩ = some (.string key)) :
    Calls Tryd.prog 92 #[.agg #[.string y.key, .string y.name], .pointer (some ⟨kp, 0, none⟩)] w fun e w' => e = .returned (.bool (hasKey key y)) ∧ All w w' := by
  have hkp := lt_of_cell ck
  dsimp only at hkp
  by_cases h : y.key = key
  · have hb : hasKey key y = true := by simp [hasKey, h]
    have e1 : (y.key.toList == key.toList) = true := by simp [h]
    rw [hb]
    clear hb h
    go_enter Tryd.func92, Tryd.ntmps92
    go_wp2_with fail
    go_ret
    exact ⟨by simp, Kept.alloc _ _ _⟩
  · have hb : hasKey key y = false := by simp [hasKey, h]
    have e1 : (y.key.toList == key.toList) = false := by simp; exact fun e => h (bytes_ext e)
    rw [hb]
    clear hb h
    go_enter Tryd.func92, Tryd.ntmps92
    go_wp2_with fail
    go_ret
    exact ⟨by simp, Kept.alloc _ _ _⟩

/-- IndexFunc with CorrectOf's closure. -/
theorem correctIdx_any (kp : Nat) (key : ByteArray) (a : Option Addr) (len cap : Nat) (cs : List Cred) (w : World) (hs : Sl RCred 2 (fun _ => True) w a len cs) (hl : len ≤ 1000000) (ck : w.cell? ⟨kp, 2, none⟩ = some (.string key)) :
    Calls Tryd.prog 91 #[.slice a len cap, .func (.func 92) #[] #[.pointer (some ⟨kp, 0, none⟩)]] w fun e w' => e = .returned (.int .i64 (findG (hasKey key) 0 cs)) ∧ All w w' :=
  indexCred_any 92 _ (enters_of Tryd.func92 (by kernel_rfl) rfl) (hasKey key) a len cap cs w hs hl (fun y wx hwx => correct1_any kp key y wx (hwx.cell ck trivial))

set_option maxRecDepth 100000 in
set_option maxHeartbeats 3200000 in
theorem correctOf_any (a : Option Addr) (len cap : Nat) (xs : List Fin4) (ae : Option Addr) (le ce : Nat) (es : List Err5) (w : World) (hs : Sl RFin 4 (fun _ => True) w a len xs) (hl : len ≤ 1000) (he : Sl RErr 5 (fun _ => True) w ae le es) (hle : le ≤ 1000) (hr : Rises xs) (hfd : ∀ x ∈ es, x.field = 1 ∨ x.field = 2) :
    Calls Tryd.prog 37 #[.slice a len cap, .slice ae le ce] w (OutPost (applyF xs 0 es) w) := by
  have Hlen := Lib.hid hs.len
  have Hle := Lib.hid he.len
  have HFD := Lib.hid hfd
  have HR := Lib.hid hr
  have hmf := hmfC
  clear hfd hr
  go_enter Tryd.func37, Tryd.ntmps37
  go_wp2_with fail
  refine (copyFinals_any a len cap xs _ hs hl).mono ?_
  rintro e w1 ⟨p, c, tag, rfl, hO, hw1⟩
  have hxl : xs.length ≤ 1000 := by have := Hlen.out; omega
  clear hs
  obtain ⟨ll, hll⟩ : ∃ ll, ll = xs.length := ⟨_, rfl⟩
  rw [← hll] at hO hxl ⊢
  clear hll
  go_wp2_with fail
  go_loopw [7, 17] (fun m i wr => ∃ (k : Nat) (n : Int), k ≤ le ∧ i = .int .i64 k ∧ m = .int .i64 n ∧ ApInv w.heap.size tag xs es p ll c k n w wr) (fun _ i _ => le - (intOf i).toNat)
  case atStart => exact ⟨0, 0, Nat.zero_le _, rfl, rfl, xs, hO, HR.out, ApAt.zero _ _, by omega, by omega, hw1⟩
  case round =>
    clear hO hw1
    obtain ⟨k, n, hk, rfl, rfl, ys, hO, hr, hat, hn0, hn1, hwo⟩ := hrel
    obtain ⟨wo, rfl⟩ : ∃ wo : World, wo = wr := ⟨_, rfl⟩
    have HAT := Lib.hid hat
    have HR2 := Lib.hid hr
    have hyl : ys.length ≤ 1000 := by have := (Own.sl hO).1; omega
    clear hat hr
    by_cases hlt : k < le
    · obtain ⟨b, off, x, hae, -, c0, c1, c2, c3, c4, hsm, hx, -⟩ := (he.keep RErr.ok hwo).atErr hlt
      subst hae
      have HX := Lib.hid hx
      have hfx := HFD.out x (List.mem_of_getElem? hx)
      have hns : x.new.size ≤ 1000000 := hsm.2.2.2.2
      have hwa := hwo.then_alloc (.cells #[.string x.paper, .int .i64 x.field, .string x.key, .string x.old, .string x.new] 124)
      have hOa := hO.keepAll (RFinO.ok 1000) (Kept.alloc (fun _ => True) wo (.cells #[.string x.paper, .int .i64 x.field, .string x.key, .string x.old, .string x.new] 124))
      have hblk := heap_at wo (.cells #[.string x.paper, .int .i64 x.field, .string x.key, .string x.old, .string x.new] 124) _ rfl
      have e1 := cell_at (i := 1) hblk rfl
      have e2 := cell_at (i := 2) hblk rfl
      have e3 := cell_at (i := 3) hblk rfl
      have e4 := cell_at (i := 4) hblk rfl
      obtain ⟨hll, hsl0⟩ := Own.sl hOa
      have hsla : Sl RFin 4 (fun _ => True) (wo.alloc (.cells #[.string x.paper, .int .i64 x.field, .string x.key, .string x.old, .string x.new] 124)) p ll ys := by rw [hll]; exact hsl0
      have HLL := Lib.hid hll
      clear hx hsm hO hblk hwo hll hsl0
      cases hfo : finOf ys x.paper with
      | none =>
        have hneg : findG (isPaper x.paper) 0 ys = -1 := by
          rcases findG_find (p := isPaper x.paper) (xs := ys) (k := 0) with ⟨-, h⟩ | ⟨i, f, h, -, -⟩
          · exact h
          · unfold finOf at hfo; rw [h] at hfo; cases hfo
        have hfin := Lib.hid (HAT.out.none HX.out (show whereF ys x = none by unfold whereF; rw [hfo]))
        have HNEG := Lib.hid hneg
        clear hfo hneg hfx
        go_wp2_with fail
        refine (finalAt_any _ ll c ys x.paper _ hsla (by omega)).mono ?_
        rintro e w2 ⟨rfl, hw2⟩
        have hk2 := hwa.trans hw2
        have q1 := hw2.cell e1 trivial
        have q2 := hw2.cell e2 trivial
        have q3 := hw2.cell e3 trivial
        have q4 := hw2.cell e4 trivial
        have hO2 := hOa.keepAll (RFinO.ok 1000) hw2
        rw [HNEG.out]
        go_wp2_with fail
        go_ret3
        exact OutPost.fail hfin.out hk2
      | some f =>
        obtain ⟨i, hfi, hix⟩ := findG_some hfo
        have hil : i < ll := by
          obtain ⟨hh, -⟩ := List.getElem?_eq_some_iff.1 hix
          have := HLL.out
          omega
        have HFI := Lib.hid hfi
        have HIX := Lib.hid hix
        obtain ⟨g, cg, vs0, hv0, -, -⟩ := hOa.at (i := 0) (by have := HLL.out; omega)
        injection hv0 with hv1 hv2 hv3
        subst hv1
        clear hv2 hv3
        have hi0 : (0 : Int) ≤ (i : Int) := by omega
        have hi1 : (i : Int) < (ll : Int) := by omega
        have hi2 : decide ((i : Int) < 0) = false := by simp
        by_cases hf1 : x.field = 1
        · have d0 : (x.field == 2) = false := by simp [hf1]
          have HWH := Lib.hid (show whereF ys x = some ⟨i, none⟩ by unfold whereF; rw [hfo]; simp [hf1, hfi])
          clear hfo hix hfi hf1 hfx
          go_wp2_with fail
          refine (finalAt_any _ ll c ys x.paper _ hsla (by omega)).mono ?_
          rintro e w2 ⟨rfl, hw2⟩
          have hk2 := hwa.trans hw2
          have q1 := hw2.cell e1 trivial
          have q2 := hw2.cell e2 trivial
          have q3 := hw2.cell e3 trivial
          have q4 := hw2.cell e4 trivial
          have hO2 := hOa.keepAll (RFinO.ok 1000) hw2
          rw [HFI.out]
          have hpl := place_title hO2 HIX.out
          have hkq := hk2
          have hOq := hO2
          clear hsla hOa hwa hw2 hk2 hO2 e1 e2 e3 e4
          have pc := hpl.cell
          have pf := hpl.free
          have hpz := hpl.small
          by_cases ho : getF ys ⟨i, none⟩ = x.old
          · have d1 : ((getF ys ⟨i, none⟩).toList == x.old.toList) = true := by simp [ho]
            have hnx := Lib.hid (ApInv.next HR2.out HAT.out HX.out HWH.out ho hn0 hn1 hkq (Nat.le_refl _) hpl hns)
            generalize getF ys ⟨i, none⟩ = t at *
            clear ho hpl hOq
            go_wp2_with fail
            go_roundw
            case rel => exact ⟨k + 1, n + 1, by omega, by go_num, by go_num, hnx.out⟩
            case measure => simp [intOf]; omega
          · have d1 : ((getF ys ⟨i, none⟩).toList == x.old.toList) = false := by simp; exact fun e => ho (bytes_ext e)
            by_cases hne : getF ys ⟨i, none⟩ = x.new
            · have d2 : ((getF ys ⟨i, none⟩).toList == x.new.toList) = true := by simp [hne]
              have hnx := Lib.hid (ApInv.same HR2.out hOq HAT.out HX.out HWH.out ho hne hn0 hn1 hkq)
              generalize getF ys ⟨i, none⟩ = t at *
              clear ho hpl hOq hne
              go_wp2_with fail
              go_roundw
              case rel => exact ⟨k + 1, n, by omega, by go_num, by go_num, hnx.out⟩
              case measure => simp [intOf]; omega
            · have d2 : ((getF ys ⟨i, none⟩).toList == x.new.toList) = false := by simp; exact fun e => hne (bytes_ext e)
              have hfin := Lib.hid (HAT.out.conf HX.out HWH.out ho hne)
              generalize getF ys ⟨i, none⟩ = t at *
              clear ho hpl hOq hne
              go_wp2_with fail
              go_ret3
              exact OutPost.fail hfin.out hkq
        · have hf2 : x.field = 2 := by omega
          have d0 : (x.field == 2) = true := by simp [hf2]
          obtain ⟨bf, of, f', ac, cc, haf, -, -, -, -, r3, hfsm, hcc, hcr, hf', -, -⟩ := hsla.atFin hil
          have hff : f' = f := by rw [hix] at hf'; injection hf' with hf'; exact hf'.symm
          subst hff
          cases haf
          rw [Nat.zero_add] at r3
          have hcl : f'.credits.length ≤ 1000 := hfsm.2.2.2.2
          by_cases hneg : findG (hasKey x.key) 0 f'.credits < 0
          · have hfin := Lib.hid (HAT.out.none HX.out (show whereF ys x = none by unfold whereF; rw [hfo]; simp [hf1, hneg]))
            have dn : decide (findG (hasKey x.key) 0 f'.credits < 0) = true := by simp [hneg]
            clear hfo hix hfi hf1 hf2 hfx hf' hneg
            go_wp2_with fail
            refine (finalAt_any _ ll c ys x.paper _ hsla (by omega)).mono ?_
            rintro e w2 ⟨rfl, hw2⟩
            have hk2 := hwa.trans hw2
            have q1 := hw2.cell e1 trivial
            have q2 := hw2.cell e2 trivial
            have q3 := hw2.cell e3 trivial
            have q4 := hw2.cell e4 trivial
            have hO2 := hOa.keepAll (RFinO.ok 1000) hw2
            rw [HFI.out]
            have r5 := hw2.cell r3 trivial
            go_wp2_with fail
            refine (correctIdx_any _ x.key ac f'.credits.length cc f'.credits _ (hcr.keep RCred.ok hw2) (by omega) q2).mono ?_
            rintro e w3 ⟨rfl, hw3⟩
            go_wp2_with fail
            go_ret3
            exact OutPost.fail hfin.out (hk2.trans hw3)
          · obtain ⟨j, hj⟩ := Int.eq_ofNat_of_zero_le (show 0 ≤ findG (hasKey x.key) 0 f'.credits by omega)
            have hjl : j < f'.credits.length := by
              rcases findG_find (p := hasKey x.key) (xs := f'.credits) (k := 0) with ⟨-, h2⟩ | ⟨i2, y2, -, h2, h3⟩
              · omega
              · obtain ⟨hh, -⟩ := List.getElem?_eq_some_iff.1 h3
                rw [hj] at h2
                omega
            have HWH := Lib.hid (show whereF ys x = some ⟨i, some j⟩ by unfold whereF; rw [hfo]; simp [hf1, hfi, hj])
            have HJ := Lib.hid hj
            clear hfo hix hfi hf1 hf2 hfx hf' hneg hj
            go_wp2_with fail
            refine (finalAt_any _ ll c ys x.paper _ hsla (by omega)).mono ?_
            rintro e w2 ⟨rfl, hw2⟩
            have hk2 := hwa.trans hw2
            have q1 := hw2.cell e1 trivial
            have q2 := hw2.cell e2 trivial
            have q3 := hw2.cell e3 trivial
            have q4 := hw2.cell e4 trivial
            have hO2 := hOa.keepAll (RFinO.ok 1000) hw2
            rw [HFI.out]
            have r5 := hw2.cell r3 trivial
            go_wp2_with fail
            refine (correctIdx_any _ x.key ac f'.credits.length cc f'.credits _ (hcr.keep RCred.ok hw2) (by omega) q2).mono ?_
            rintro e w3 ⟨rfl, hw3⟩
            rw [HJ.out]
            have hkq := hk2.trans hw3
            have hOq := hO2.keepAll (RFinO.ok 1000) hw3
            obtain ⟨cb, cc', q6, hpl⟩ := place_name hOq HIX.out hjl
            have r7 := hw3.cell r5 trivial
            have hac := r7.symm.trans q6
            injection hac with hac
            injection hac with hac1 hac2 hac3
            subst hac1
            have s3 := hw3.cell q3 trivial
            have s4 := hw3.cell q4 trivial
            have hj0 : (0 : Int) ≤ (j : Int) := by omega
            have hj1 : (j : Int) < (f'.credits.length : Int) := by omega
            have hj2 : decide ((j : Int) < 0) = false := by simp
            clear hac2 hac3 q6 hsla hOa hwa hw2 hk2 hO2 e1 e2 e3 e4 q1 q2 q3 q4 r3 r5 hw3
            have pc := hpl.cell
            have pf := hpl.free
            have hpz := hpl.small
            by_cases ho : getF ys ⟨i, some j⟩ = x.old
            · have d1 : ((getF ys ⟨i, some j⟩).toList == x.old.toList) = true := by simp [ho]
              have hnx := Lib.hid (ApInv.next HR2.out HAT.out HX.out HWH.out ho hn0 hn1 hkq (Nat.le_refl _) hpl hns)
              generalize getF ys ⟨i, some j⟩ = t at *
              clear ho hpl hOq
              go_wp2_with fail
              go_roundw
              case rel => exact ⟨k + 1, n + 1, by omega, by go_num, by go_num, hnx.out⟩
              case measure => simp [intOf]; omega
            · have d1 : ((getF ys ⟨i, some j⟩).toList == x.old.toList) = false := by simp; exact fun e => ho (bytes_ext e)
              by_cases hne : getF ys ⟨i, some j⟩ = x.new
              · have d2 : ((getF ys ⟨i, some j⟩).toList == x.new.toList) = true := by simp [hne]
                have hnx := Lib.hid (ApInv.same HR2.out hOq HAT.out HX.out HWH.out ho hne hn0 hn1 hkq)
                generalize getF ys ⟨i, some j⟩ = t at *
                clear ho hpl hOq hne
                go_wp2_with fail
                go_roundw
                case rel => exact ⟨k + 1, n, by omega, by go_num, by go_num, hnx.out⟩
                case measure => simp [intOf]; omega
              · have d2 : ((getF ys ⟨i, some j⟩).toList == x.new.toList) = false := by simp; exact fun e => hne (bytes_ext e)
                have hfin := Lib.hid (HAT.out.conf HX.out HWH.out ho hne)
                generalize getF ys ⟨i, some j⟩ = t at *
                clear ho hpl hOq hne
                go_wp2_with fail
                go_ret3
                exact OutPost.fail hfin.out hkq
    · have hd : decide ((k : Int) < (le : Int)) = false := by simp; omega
      have hfin := Lib.hid (HAT.out.ok (by have := Hle.out; omega))
      clear HAT
      go_wp2_with fail
      go_ret3
      exact OutPost.good hfin.out hO hyl hwo
end Go.Proofs.YteanedcfiellkaaDoor
