/- Squeezing rows of a world under way: they stay right. -/
import Derived.Test.YtgobnlgmbplggaaGreatDoorU8
namespace Go.Proofs.YtgobnlgmbplggaaGreatDoor
open Go.RowKit

/-- A row of a kind comes back, not longer. -/
def SlPost (B : Nat) (N : Nat → Nat) (k n : Nat) (w : World) (e : Ending) (w' : World) : Prop := ∃ a m c, e = .returned (.slice a m c) ∧ m ≤ n ∧ Gd Θw B N w' (.sl k) (.slice a m c) ∧ Goes Θw B N w N w' ∧ Kept (LowS B w) w w'
theorem Gd.shorter {B : Nat} {N : Nat → Nat} {w : World} {k g n m c : Nat} (h : TB Θw B N w g k c) (hn : n ≤ N k) (hm : m ≤ n) (hc : n ≤ c) : Gd Θw B N w (.sl k) (.slice (some ⟨g, 0, none⟩) m c) := Gd.of_slice (by omega) (by omega) rfl h
def IsBoo (v : Value) : Prop := ∃ z, v = .bool z
set_option maxHeartbeats 3200000 in
theorem eqlHom (x y : Hom) : ∃ z : Bool, ∀ W, (binOp .eql 101 (.agg #[.string x.place, .int .i64 x.frm, .int .i64 x.til]) (.agg #[.string y.place, .int .i64 y.frm, .int .i64 y.til])).run Tryz.prog W = .ok (.bool z) W := by
  cases h1 : (x.place.toList == y.place.toList) with
  | false => exact ⟨false, fun W => by go_simp⟩
  | true =>
    cases h2 : (x.frm == y.frm) with
    | false => exact ⟨false, fun W => by go_simp⟩
    | true =>
      cases h3 : (x.til == y.til) with
      | false => exact ⟨false, fun W => by go_simp⟩
      | true => exact ⟨true, fun W => by go_simp⟩
set_option maxHeartbeats 3200000 in
theorem eqlBnd (x y : Bnd) : ∃ z : Bool, ∀ W, (binOp .eql 75 (.agg #[.string x.a, .string x.b]) (.agg #[.string y.a, .string y.b])).run Tryz.prog W = .ok (.bool z) W := by
  cases h1 : (x.a.toList == y.a.toList) with
  | false => exact ⟨false, fun W => by go_simp⟩
  | true =>
    cases h2 : (x.b.toList == y.b.toList) with
    | false => exact ⟨false, fun W => by go_simp⟩
    | true => exact ⟨true, fun W => by go_simp⟩
set_option maxHeartbeats 3200000 in
theorem neqHom (x y : Hom) : ∃ z : Bool, ∀ W, (binOp .neq 101 (.agg #[.string x.place, .int .i64 x.frm, .int .i64 x.til]) (.agg #[.string y.place, .int .i64 y.frm, .int .i64 y.til])).run Tryz.prog W = .ok (.bool z) W := by
  cases h1 : (x.place.toList == y.place.toList) with
  | false => exact ⟨true, fun W => by go_simp⟩
  | true =>
    cases h2 : (x.frm == y.frm) with
    | false => exact ⟨true, fun W => by go_simp⟩
    | true =>
      cases h3 : (x.til == y.til) with
      | false => exact ⟨true, fun W => by go_simp⟩
      | true => exact ⟨false, fun W => by go_simp⟩
set_option maxHeartbeats 3200000 in
theorem neqBnd (x y : Bnd) : ∃ z : Bool, ∀ W, (binOp .neq 75 (.agg #[.string x.a, .string x.b]) (.agg #[.string y.a, .string y.b])).run Tryz.prog W = .ok (.bool z) W := by
  cases h1 : (x.a.toList == y.a.toList) with
  | false => exact ⟨true, fun W => by go_simp⟩
  | true =>
    cases h2 : (x.b.toList == y.b.toList) with
    | false => exact ⟨true, fun W => by go_simp⟩
    | true => exact ⟨false, fun W => by go_simp⟩

set_option maxRecDepth 100000 in
set_option maxHeartbeats 12800000 in
theorem compactBnd_any (B : Nat) (N : Nat → Nat) (a : Option Addr) (n cap : Nat) (w : World) (hg : Gd Θw B N w (.sl 4) (.slice a n cap)) (hn2 : n ≤ 1000) :
    Calls Tryz.prog 125 #[.slice a n cap] w (SlPost B N 4 n w) := by
  by_cases h2 : n < 2
  · have hd : decide ((n : Int) < 2) = true := by simp; omega
    have HG := Lib.hid hg
    clear hg
    go_enter Tryz.func125, Tryz.ntmps125
    go_wp2_with fail
    go_ret
    exact ⟨a, n, cap, rfl, Nat.le_refl _, HG.out, Goes.refl _ _ _ _, Kept.refl _ _⟩
  obtain ⟨a', n', cap', e, hnN, hnc, h3⟩ := hg.slice
  cases e
  obtain ⟨g, rfl, hb⟩ := h3 (by omega)
  have HB := Lib.hid hb
  have hcap : (cap : Int) ≤ 9223372036854775807 ∨ True := Or.inr trivial
  have hd : decide ((n : Int) < 2) = false := by simp; omega
  clear hg h3 hb hcap
  go_enter Tryz.func125, Tryz.ntmps125
  go_wp2_with fail
  go_loopw [3] (fun i wr => ∃ kp : Nat, kp + 1 ≤ n ∧ i = .int .i64 ((kp : Int) + 1) ∧ All w wr) (fun i _ => n - (intOf i).toNat)
  case atStart => exact ⟨0, by omega, rfl, Kept.refl _ _⟩
  case round =>
    obtain ⟨kp, hk, rfl, hall⟩ := hrel
    obtain ⟨wo, rfl⟩ : ∃ z : World, z = wr := ⟨_, rfl⟩
    by_cases hlt : kp + 1 < n
    · have HT := Lib.hid ((Goes.all hall).tb _ _ _ HB.out)
      have HALL := Lib.hid hall
      obtain ⟨x, d0, d1, hx⟩ := HT.out.bnd (i := kp + 1) (by omega)
      obtain ⟨y, e0, e1, hy⟩ := HT.out.bnd (i := kp) (by omega)
      have f1 : (0 : Int) ≤ (kp : Int) := by omega
      have f2 : (kp : Int) < (n : Int) := by omega
      have f6 : (0 : Int) ≤ (kp : Int) + 1 := by omega
      have f7 : (kp : Int) + 1 < (n : Int) := by omega
      have f4 : IntKind.i64.wrap (kp : Int) = (kp : Int) := IntWalk.i64_in _ (by omega)
      have hdk : decide ((kp : Int) + 1 < (n : Int)) = true := by simp; omega
      have f8 : decide ((kp : Int) + 1 ≤ (cap : Int)) = true := by simp; omega
      have ka : All wo wo := Kept.refl _ _
      have f5 := lt_of_cell d0

      obtain ⟨z, hzq⟩ := eqlBnd x y
      have HRK := Lib.hid (show All w wo from HALL.out)
      clear hx hy hall
      go_upto_region 6 with fail
      go_quiet (fail)

      have ka : All wo (wo.drewN nq) := Kept.drewN _ _ _
      clear HRK
      have HRK := Lib.hid (show All w (wo.drewN nq) from HALL.out.trans ka)
      generalize wo.drewN nq = wa at *
      cases z with
      | false =>
        go_wp2_with fail
        go_roundw
        case rel => exact ⟨kp + 1, by omega, by go_num, HRK.out⟩
        case measure => simp [intOf]; omega
      | true =>
        go_wp2_with fail
        clear ka
        obtain ⟨m, hmm⟩ : ∃ m, m = n - (kp + 1) := ⟨_, rfl⟩
        rw [← hmm]
        have HM := Lib.hid (show m + (kp + 1) = n by omega)
        have hm1 : 1 ≤ m := by omega
        have hmn : m < n := by omega
        clear hmm f1 f2 f4 f5 f6 f7 f8 hdk
        go_loopw [3, 5] (fun i j wr => ∃ k k2 : Nat, i = .int .i64 k ∧ j = .int .i64 k2 ∧ 1 ≤ k ∧ 1 ≤ k2 ∧ k < kp + 1 + k2 ∧ k2 ≤ m ∧ RowW B N g w wr) (fun _ j _ => m - (intOf j).toNat)
        case atStart => exact ⟨kp + 1, 1, by go_num, rfl, by omega, by omega, by omega, by omega, (RowW.refl B N g w).all HRK.out⟩
        case round =>
          obtain ⟨k, k2, rfl, rfl, hk1, hk21, hkk, hk2m, hrw⟩ := hrel
          obtain ⟨wi, rfl⟩ : ∃ z : World, z = wr := ⟨_, rfl⟩
          have HT := Lib.hid (hrw.1.tb _ _ _ HB.out)
          have HRW := Lib.hid hrw
          clear hrw
          have hkn : k < n := by have := HM.out; omega
          by_cases hlt2 : k2 < m
          · obtain ⟨j, rfl⟩ : ∃ j, k2 = j + 1 := ⟨k2 - 1, by omega⟩
            obtain ⟨x, d0, d1, hx⟩ := HT.out.bnd (i := kp + 1 + (j + 1)) (by have := HM.out; omega)
            obtain ⟨y, e0, e1, hy⟩ := HT.out.bnd (i := kp + 1 + j) (by have := HM.out; omega)
            obtain ⟨s, s0, s1, -⟩ := HT.out.bnd (i := k) (by omega)
            rw [Nat.add_mul] at d0 d1 e0 e1
            have f1 : IntKind.i64.wrap (j : Int) = (j : Int) := IntWalk.i64_in _ (by omega)
            have f3 : (0 : Int) ≤ (j : Int) := by omega
            have f4 : (j : Int) < (m : Int) := by omega
            have f5 : (k : Int) < (n : Int) := by omega
            have f6 : (0 : Int) ≤ (j : Int) + 1 := by omega
            have f7 : (j : Int) + 1 < (m : Int) := by omega
            have f8 := lt_of_cell d0
            have hdk2 : decide ((j : Int) + 1 < (m : Int)) = true := by simp; omega
            have ka : All wi wi := Kept.refl _ _
            have HGX := Lib.hid (show GdL Θw B N wi (Θw.fds 4) [.string x.a, .string x.b] from gdBnd hx)

            obtain ⟨z, hzq⟩ := neqBnd x y
            clear hx hy
            go_upto_region 11 with fail
            go_quiet (fail)
            have ka : All wi (wi.drewN nq) := Kept.drewN _ _ _
            have HKA := Lib.hid ka
            have HR2 := Lib.hid (HRW.out.all ka)
            have s0 := ka.cell s0 trivial
            have s1 := ka.cell s1 trivial
            have d0 := ka.cell d0 trivial
            have d1 := ka.cell d1 trivial
            generalize wi.drewN nq = wa at *
            cases hz : z with
            | false =>
              subst hz
              go_wp2_with fail
              go_roundw
              case rel => exact ⟨k, j + 1 + 1, rfl, by go_num, hk1, by omega, by omega, by omega, HR2.out⟩
              case measure => simp [intOf]; omega
            | true =>
              subst hz
              have HTA := HR2.out.1.tb _ _ _ HB.out
              have z0 := HTA.fz (k * 2)
              have z1 := HTA.fz (k * 2 + 1)
              have HF := Lib.hid (show RowW B N g w ((wa.setCell ⟨g, k * 2, none⟩ (.string x.a)).setCell ⟨g, k * 2 + 1, none⟩ (.string x.b)) from HR2.out.put2 HB.out rfl k (HGX.out.goes (Goes.all HKA.out)))
              clear HTA ka
              go_wp2_with fail
              go_roundw
              case rel => exact ⟨k + 1, j + 1 + 1, by go_num, by go_num, by omega, by omega, by omega, by omega, HF.out⟩
              case measure => simp [intOf]; omega
          · have hdk2 : decide ((k2 : Int) < (m : Int)) = false := by simp; omega
            obtain ⟨w9, hclr, hgo, hkp9⟩ := wOk4.clear ⟨_, by kernel_rfl, Tryz.zeroValue75⟩ (wSep 4 (by decide)) wi B N g cap k (n - k) (cap - k) 2 rfl HT.out (by omega) (by omega)
            have HE := Lib.hid (show RowW B N g w w9 from ⟨HRW.out.1.trans hgo, HRW.out.2.trans hkp9⟩)
            have HG := Lib.hid (show Gd Θw B N w9 (.sl 4) (.slice (some ⟨g, 0, none⟩) k cap) from Gd.shorter (HE.out.1.tb _ _ _ HB.out) hnN (by omega) hnc)
            have HBL := Lib.hid (fun b (h : LowS B w b) => h.ne HB.out (by decide))
            have f5 : (k : Int) < (n : Int) := by omega
            clear hgo hkp9
            go_wp2_with fail
            go_ret
            exact ⟨_, k, cap, rfl, by omega, HG.out, HE.out.1, HE.out.2.mono (fun b hb2 => HBL.out b hb2)⟩
    · have hdk : decide ((kp : Int) + 1 < (n : Int)) = false := by simp; omega
      have HG := Lib.hid (show Gd Θw B N wo (.sl 4) (.slice (some ⟨g, 0, none⟩) n cap) from Gd.of_slice hnN hnc rfl ((Goes.all hall).tb _ _ _ HB.out))
      go_wp2_with fail
      go_ret
      exact ⟨_, n, cap, rfl, Nat.le_refl _, HG.out, Goes.all hall, hall.all⟩

set_option maxRecDepth 100000 in
set_option maxHeartbeats 12800000 in
theorem compactHom_any (B : Nat) (N : Nat → Nat) (a : Option Addr) (n cap : Nat) (w : World) (hg : Gd Θw B N w (.sl 3) (.slice a n cap)) (hn2 : n ≤ 1000) :
    Calls Tryz.prog 171 #[.slice a n cap] w (SlPost B N 3 n w) := by
  by_cases h2 : n < 2
  · have hd : decide ((n : Int) < 2) = true := by simp; omega
    have HG := Lib.hid hg
    clear hg
    go_enter Tryz.func171, Tryz.ntmps171
    go_wp2_with fail
    go_ret
    exact ⟨a, n, cap, rfl, Nat.le_refl _, HG.out, Goes.refl _ _ _ _, Kept.refl _ _⟩
  obtain ⟨a', n', cap', e, hnN, hnc, h3⟩ := hg.slice
  cases e
  obtain ⟨g, rfl, hb⟩ := h3 (by omega)
  have HB := Lib.hid hb
  have hcap : (cap : Int) ≤ 9223372036854775807 ∨ True := Or.inr trivial
  have hd : decide ((n : Int) < 2) = false := by simp; omega
  clear hg h3 hb hcap
  go_enter Tryz.func171, Tryz.ntmps171
  go_wp2_with fail
  go_loopw [3] (fun i wr => ∃ kp : Nat, kp + 1 ≤ n ∧ i = .int .i64 ((kp : Int) + 1) ∧ All w wr) (fun i _ => n - (intOf i).toNat)
  case atStart => exact ⟨0, by omega, rfl, Kept.refl _ _⟩
  case round =>
    obtain ⟨kp, hk, rfl, hall⟩ := hrel
    obtain ⟨wo, rfl⟩ : ∃ z : World, z = wr := ⟨_, rfl⟩
    by_cases hlt : kp + 1 < n
    · have HT := Lib.hid ((Goes.all hall).tb _ _ _ HB.out)
      have HALL := Lib.hid hall
      obtain ⟨x, d0, d1, d2, hx, hxt⟩ := HT.out.hom (i := kp + 1) (by omega)
      obtain ⟨y, e0, e1, e2, hy, hyt⟩ := HT.out.hom (i := kp) (by omega)
      have f1 : (0 : Int) ≤ (kp : Int) := by omega
      have f2 : (kp : Int) < (n : Int) := by omega
      have f6 : (0 : Int) ≤ (kp : Int) + 1 := by omega
      have f7 : (kp : Int) + 1 < (n : Int) := by omega
      have f4 : IntKind.i64.wrap (kp : Int) = (kp : Int) := IntWalk.i64_in _ (by omega)
      have hdk : decide ((kp : Int) + 1 < (n : Int)) = true := by simp; omega
      have f8 : decide ((kp : Int) + 1 ≤ (cap : Int)) = true := by simp; omega
      have ka : All wo wo := Kept.refl _ _
      have f5 := lt_of_cell d0

      obtain ⟨z, hzq⟩ := eqlHom x y
      have HRK := Lib.hid (show All w wo from HALL.out)
      clear hx hxt hy hyt hall
      go_upto_region 6 with fail
      go_quiet (fail)

      have ka : All wo (wo.drewN nq) := Kept.drewN _ _ _
      clear HRK
      have HRK := Lib.hid (show All w (wo.drewN nq) from HALL.out.trans ka)
      generalize wo.drewN nq = wa at *
      cases z with
      | false =>
        go_wp2_with fail
        go_roundw
        case rel => exact ⟨kp + 1, by omega, by go_num, HRK.out⟩
        case measure => simp [intOf]; omega
      | true =>
        go_wp2_with fail
        clear ka
        obtain ⟨m, hmm⟩ : ∃ m, m = n - (kp + 1) := ⟨_, rfl⟩
        rw [← hmm]
        have HM := Lib.hid (show m + (kp + 1) = n by omega)
        have hm1 : 1 ≤ m := by omega
        have hmn : m < n := by omega
        clear hmm f1 f2 f4 f5 f6 f7 f8 hdk
        go_loopw [3, 5] (fun i j wr => ∃ k k2 : Nat, i = .int .i64 k ∧ j = .int .i64 k2 ∧ 1 ≤ k ∧ 1 ≤ k2 ∧ k < kp + 1 + k2 ∧ k2 ≤ m ∧ RowW B N g w wr) (fun _ j _ => m - (intOf j).toNat)
        case atStart => exact ⟨kp + 1, 1, by go_num, rfl, by omega, by omega, by omega, by omega, (RowW.refl B N g w).all HRK.out⟩
        case round =>
          obtain ⟨k, k2, rfl, rfl, hk1, hk21, hkk, hk2m, hrw⟩ := hrel
          obtain ⟨wi, rfl⟩ : ∃ z : World, z = wr := ⟨_, rfl⟩
          have HT := Lib.hid (hrw.1.tb _ _ _ HB.out)
          have HRW := Lib.hid hrw
          clear hrw
          have hkn : k < n := by have := HM.out; omega
          by_cases hlt2 : k2 < m
          · obtain ⟨j, rfl⟩ : ∃ j, k2 = j + 1 := ⟨k2 - 1, by omega⟩
            obtain ⟨x, d0, d1, d2, hx, hxt⟩ := HT.out.hom (i := kp + 1 + (j + 1)) (by have := HM.out; omega)
            obtain ⟨y, e0, e1, e2, hy, hyt⟩ := HT.out.hom (i := kp + 1 + j) (by have := HM.out; omega)
            obtain ⟨s, s0, s1, s2, -, -⟩ := HT.out.hom (i := k) (by omega)
            rw [Nat.add_mul] at d0 d1 d2 e0 e1 e2
            have f1 : IntKind.i64.wrap (j : Int) = (j : Int) := IntWalk.i64_in _ (by omega)
            have f3 : (0 : Int) ≤ (j : Int) := by omega
            have f4 : (j : Int) < (m : Int) := by omega
            have f5 : (k : Int) < (n : Int) := by omega
            have f6 : (0 : Int) ≤ (j : Int) + 1 := by omega
            have f7 : (j : Int) + 1 < (m : Int) := by omega
            have f8 := lt_of_cell d0
            have hdk2 : decide ((j : Int) + 1 < (m : Int)) = true := by simp; omega
            have ka : All wi wi := Kept.refl _ _
            have HGX := Lib.hid (show GdL Θw B N wi (Θw.fds 3) [.string x.place, .int .i64 x.frm, .int .i64 x.til] from gdHom hx hxt)

            obtain ⟨z, hzq⟩ := neqHom x y
            clear hx hxt hy hyt
            go_upto_region 11 with fail
            go_quiet (fail)
            have ka : All wi (wi.drewN nq) := Kept.drewN _ _ _
            have HKA := Lib.hid ka
            have HR2 := Lib.hid (HRW.out.all ka)
            have s0 := ka.cell s0 trivial
            have s1 := ka.cell s1 trivial
            have s2 := ka.cell s2 trivial
            have d0 := ka.cell d0 trivial
            have d1 := ka.cell d1 trivial
            have d2 := ka.cell d2 trivial
            generalize wi.drewN nq = wa at *
            cases hz : z with
            | false =>
              subst hz
              go_wp2_with fail
              go_roundw
              case rel => exact ⟨k, j + 1 + 1, rfl, by go_num, hk1, by omega, by omega, by omega, HR2.out⟩
              case measure => simp [intOf]; omega
            | true =>
              subst hz
              have HTA := HR2.out.1.tb _ _ _ HB.out
              have z0 := HTA.fz (k * 3)
              have z1 := HTA.fz (k * 3 + 1)
              have z2 := HTA.fz (k * 3 + 2)
              have HF := Lib.hid (show RowW B N g w (((wa.setCell ⟨g, k * 3, none⟩ (.string x.place)).setCell ⟨g, k * 3 + 1, none⟩ (.int .i64 x.frm)).setCell ⟨g, k * 3 + 2, none⟩ (.int .i64 x.til)) from HR2.out.put3 HB.out rfl k (HGX.out.goes (Goes.all HKA.out)))
              clear HTA ka
              go_wp2_with fail
              go_roundw
              case rel => exact ⟨k + 1, j + 1 + 1, by go_num, by go_num, by omega, by omega, by omega, by omega, HF.out⟩
              case measure => simp [intOf]; omega
          · have hdk2 : decide ((k2 : Int) < (m : Int)) = false := by simp; omega
            obtain ⟨w9, hclr, hgo, hkp9⟩ := wOk3.clear ⟨_, by kernel_rfl, Tryz.zeroValue101⟩ (wSep 3 (by decide)) wi B N g cap k (n - k) (cap - k) 3 rfl HT.out (by omega) (by omega)
            have HE := Lib.hid (show RowW B N g w w9 from ⟨HRW.out.1.trans hgo, HRW.out.2.trans hkp9⟩)
            have HG := Lib.hid (show Gd Θw B N w9 (.sl 3) (.slice (some ⟨g, 0, none⟩) k cap) from Gd.shorter (HE.out.1.tb _ _ _ HB.out) hnN (by omega) hnc)
            have HBL := Lib.hid (fun b (h : LowS B w b) => h.ne HB.out (by decide))
            have f5 : (k : Int) < (n : Int) := by omega
            clear hgo hkp9
            go_wp2_with fail
            go_ret
            exact ⟨_, k, cap, rfl, by omega, HG.out, HE.out.1, HE.out.2.mono (fun b hb2 => HBL.out b hb2)⟩
    · have hdk : decide ((kp : Int) + 1 < (n : Int)) = false := by simp; omega
      have HG := Lib.hid (show Gd Θw B N wo (.sl 3) (.slice (some ⟨g, 0, none⟩) n cap) from Gd.of_slice hnN hnc rfl ((Goes.all hall).tb _ _ _ HB.out))
      go_wp2_with fail
      go_ret
      exact ⟨_, n, cap, rfl, Nat.le_refl _, HG.out, Goes.all hall, hall.all⟩

set_option maxRecDepth 100000 in
set_option maxHeartbeats 12800000 in
theorem compactWrk_any (B : Nat) (N : Nat → Nat) (a : Option Addr) (n cap : Nat) (w : World) (hg : Gd Θw B N w (.sl 6) (.slice a n cap)) (hn2 : n ≤ 1000) (gf : FuncId) (eg : ∀ args w, (callFunc gf args).run Tryz.prog w = .ok (.enter gf args) w) (hcmp : CmpK B N 6 IsBoo gf #[]) :
    Calls Tryz.prog 122 #[.slice a n cap, .func (.func gf) #[] #[]] w (SlPost B N 6 n w) := by
  by_cases h2 : n < 2
  · have hd : decide ((n : Int) < 2) = true := by simp; omega
    have HG := Lib.hid hg
    clear hg
    go_enter Tryz.func122, Tryz.ntmps122
    go_wp2_with fail
    go_ret
    exact ⟨a, n, cap, rfl, Nat.le_refl _, HG.out, Goes.refl _ _ _ _, Kept.refl _ _⟩
  obtain ⟨a', n', cap', e, hnN, hnc, h3⟩ := hg.slice
  cases e
  obtain ⟨g, rfl, hb⟩ := h3 (by omega)
  have HB := Lib.hid hb
  have hcap : (cap : Int) ≤ 9223372036854775807 ∨ True := Or.inr trivial
  have hd : decide ((n : Int) < 2) = false := by simp; omega
  clear hg h3 hb hcap
  have HC := Lib.hid hcmp
  clear hcmp
  go_enter Tryz.func122, Tryz.ntmps122
  go_wp2_with fail
  go_loopw [5] (fun i wr => ∃ kp : Nat, kp + 1 ≤ n ∧ i = .int .i64 ((kp : Int) + 1) ∧ All w wr) (fun i _ => n - (intOf i).toNat)
  case atStart => exact ⟨0, by omega, rfl, Kept.refl _ _⟩
  case round =>
    obtain ⟨kp, hk, rfl, hall⟩ := hrel
    obtain ⟨wo, rfl⟩ : ∃ z : World, z = wr := ⟨_, rfl⟩
    by_cases hlt : kp + 1 < n
    · have HT := Lib.hid ((Goes.all hall).tb _ _ _ HB.out)
      have HALL := Lib.hid hall
      obtain ⟨xd, xa, xn, xc, d0, d1, hxd, hxs⟩ := HT.out.wrk (i := kp + 1) (by omega)
      obtain ⟨yd, ya, yn, yc, e0, e1, hyd, hys⟩ := HT.out.wrk (i := kp) (by omega)
      have f1 : (0 : Int) ≤ (kp : Int) := by omega
      have f2 : (kp : Int) < (n : Int) := by omega
      have f6 : (0 : Int) ≤ (kp : Int) + 1 := by omega
      have f7 : (kp : Int) + 1 < (n : Int) := by omega
      have f4 : IntKind.i64.wrap (kp : Int) = (kp : Int) := IntWalk.i64_in _ (by omega)
      have hdk : decide ((kp : Int) + 1 < (n : Int)) = true := by simp; omega
      have f8 : decide ((kp : Int) + 1 ≤ (cap : Int)) = true := by simp; omega
      have ka : All wo wo := Kept.refl _ _
      have f5 := lt_of_cell d0

      have HGX := Lib.hid (show GdL Θw B N wo (Θw.fds 6) [.int .i64 xd, .slice xa xn xc] from gdWrk hxd hxs)
      have HGY := Lib.hid (show GdL Θw B N wo (Θw.fds 6) [.int .i64 yd, .slice ya yn yc] from gdWrk hyd hys)
      have HCMP := Lib.hid (fun (wx : World) (kx : All wo wx) => HC.out [.int .i64 xd, .slice xa xn xc] [.int .i64 yd, .slice ya yn yc] wx (HGX.out.goes (Goes.all kx)) (HGY.out.goes (Goes.all kx)))
      clear hxd hxs hyd hys hall
      go_upto_region 6 with fail
      go_region_held3 (fun w' => All wo w' ∧ w'.cell? ⟨g, (kp + 1) * 2, none⟩ = some (.int .i64 xd) ∧ w'.cell? ⟨g, (kp + 1) * 2 + 1, none⟩ = some (.slice xa xn xc) ∧ w'.cell? ⟨g, kp * 2, none⟩ = some (.int .i64 yd) ∧ w'.cell? ⟨g, kp * 2 + 1, none⟩ = some (.slice ya yn yc)) (first | exact ⟨ka, d0, d1, e0, e1⟩ | exact ⟨ka, m0, m1, m2, m3⟩ | (refine ⟨(by repeat (first | exact Kept.refl _ _ | exact ka | refine Kept.then_drew ?_ | refine Kept.then_drewN ?_ _ | refine Kept.then_alloc ?_ _)), ?_⟩; first | exact ⟨d0, d1, e0, e1⟩ | exact ⟨m0, m1, m2, m3⟩ | go_keep) | go_keep) (first | (refine (HCMP.out _ (by repeat (first | exact Kept.refl _ _ | exact ka | refine Kept.then_drew ?_ | refine Kept.then_drewN ?_ _ | refine Kept.then_alloc ?_ _))).mono ?_; rintro e wa ⟨⟨v, rfl, z, rfl⟩, hwa⟩; have m0 := hwa.cell d0 trivial; have m1 := hwa.cell d1 trivial; have m2 := hwa.cell e0 trivial; have m3 := hwa.cell e1 trivial; have ka := Kept.trans (show All wo _ from (by repeat (first | exact Kept.refl _ _ | exact ka | refine Kept.then_drew ?_ | refine Kept.then_drewN ?_ _ | refine Kept.then_alloc ?_ _))) hwa))
      have HRK := Lib.hid (show All w _ from HALL.out.trans ka)

      cases z with
      | false =>
        go_wp2_with fail
        go_roundw
        case rel => exact ⟨kp + 1, by omega, by go_num, HRK.out⟩
        case measure => simp [intOf]; omega
      | true =>
        go_wp2_with fail
        clear ka
        obtain ⟨m, hmm⟩ : ∃ m, m = n - (kp + 1) := ⟨_, rfl⟩
        rw [← hmm]
        have HM := Lib.hid (show m + (kp + 1) = n by omega)
        have hm1 : 1 ≤ m := by omega
        have hmn : m < n := by omega
        clear hmm f1 f2 f4 f5 f6 f7 f8 hdk
        go_loopw [5, 7] (fun i j wr => ∃ k k2 : Nat, i = .int .i64 k ∧ j = .int .i64 k2 ∧ 1 ≤ k ∧ 1 ≤ k2 ∧ k < kp + 1 + k2 ∧ k2 ≤ m ∧ RowW B N g w wr) (fun _ j _ => m - (intOf j).toNat)
        case atStart => exact ⟨kp + 1, 1, by go_num, rfl, by omega, by omega, by omega, by omega, (RowW.refl B N g w).all HRK.out⟩
        case round =>
          obtain ⟨k, k2, rfl, rfl, hk1, hk21, hkk, hk2m, hrw⟩ := hrel
          obtain ⟨wi, rfl⟩ : ∃ z : World, z = wr := ⟨_, rfl⟩
          have HT := Lib.hid (hrw.1.tb _ _ _ HB.out)
          have HRW := Lib.hid hrw
          clear hrw
          have hkn : k < n := by have := HM.out; omega
          by_cases hlt2 : k2 < m
          · obtain ⟨j, rfl⟩ : ∃ j, k2 = j + 1 := ⟨k2 - 1, by omega⟩
            obtain ⟨xd, xa, xn, xc, d0, d1, hxd, hxs⟩ := HT.out.wrk (i := kp + 1 + (j + 1)) (by have := HM.out; omega)
            obtain ⟨yd, ya, yn, yc, e0, e1, hyd, hys⟩ := HT.out.wrk (i := kp + 1 + j) (by have := HM.out; omega)
            obtain ⟨sd, sa, sn, sc, s0, s1, -, -⟩ := HT.out.wrk (i := k) (by omega)
            rw [Nat.add_mul] at d0 d1 e0 e1
            have f1 : IntKind.i64.wrap (j : Int) = (j : Int) := IntWalk.i64_in _ (by omega)
            have f3 : (0 : Int) ≤ (j : Int) := by omega
            have f4 : (j : Int) < (m : Int) := by omega
            have f5 : (k : Int) < (n : Int) := by omega
            have f6 : (0 : Int) ≤ (j : Int) + 1 := by omega
            have f7 : (j : Int) + 1 < (m : Int) := by omega
            have f8 := lt_of_cell d0
            have hdk2 : decide ((j : Int) + 1 < (m : Int)) = true := by simp; omega
            have ka : All wi wi := Kept.refl _ _
            have HGX := Lib.hid (show GdL Θw B N wi (Θw.fds 6) [.int .i64 xd, .slice xa xn xc] from gdWrk hxd hxs)

            have HGY := Lib.hid (show GdL Θw B N wi (Θw.fds 6) [.int .i64 yd, .slice ya yn yc] from gdWrk hyd hys)
            have HCMP := Lib.hid (fun (wx : World) (kx : All wi wx) => HC.out [.int .i64 xd, .slice xa xn xc] [.int .i64 yd, .slice ya yn yc] wx (HGX.out.goes (Goes.all kx)) (HGY.out.goes (Goes.all kx)))
            clear hxd hxs hyd hys
            go_upto_region 11 with fail
            go_region_held3 (fun w' => All wi w' ∧ w'.cell? ⟨g, (kp + 1) * 2 + (j + 1) * 2, none⟩ = some (.int .i64 xd) ∧ w'.cell? ⟨g, (kp + 1) * 2 + (j + 1) * 2 + 1, none⟩ = some (.slice xa xn xc) ∧ w'.cell? ⟨g, (kp + 1) * 2 + j * 2, none⟩ = some (.int .i64 yd) ∧ w'.cell? ⟨g, (kp + 1) * 2 + j * 2 + 1, none⟩ = some (.slice ya yn yc)) (first | exact ⟨ka, d0, d1, e0, e1⟩ | exact ⟨ka, m0, m1, m2, m3⟩ | (refine ⟨(by repeat (first | exact Kept.refl _ _ | exact ka | refine Kept.then_drew ?_ | refine Kept.then_drewN ?_ _ | refine Kept.then_alloc ?_ _)), ?_⟩; first | exact ⟨d0, d1, e0, e1⟩ | exact ⟨m0, m1, m2, m3⟩ | go_keep) | go_keep) (first | (refine (HCMP.out _ (by repeat (first | exact Kept.refl _ _ | exact ka | refine Kept.then_drew ?_ | refine Kept.then_drewN ?_ _ | refine Kept.then_alloc ?_ _))).mono ?_; rintro e wa ⟨⟨v, rfl, z, rfl⟩, hwa⟩; have m0 := hwa.cell d0 trivial; have m1 := hwa.cell d1 trivial; have m2 := hwa.cell e0 trivial; have m3 := hwa.cell e1 trivial; have ka := Kept.trans (show All wi _ from (by repeat (first | exact Kept.refl _ _ | exact ka | refine Kept.then_drew ?_ | refine Kept.then_drewN ?_ _ | refine Kept.then_alloc ?_ _))) hwa))
            have HKA := Lib.hid ka
            have HR2 := Lib.hid (HRW.out.all ka)
            have s0 := ka.cell s0 trivial
            have s1 := ka.cell s1 trivial
            have d0 := ka.cell d0 trivial
            have d1 := ka.cell d1 trivial
            cases hz : z with
            | true =>
              subst hz
              go_wp2_with fail
              go_roundw
              case rel => exact ⟨k, j + 1 + 1, rfl, by go_num, hk1, by omega, by omega, by omega, HR2.out⟩
              case measure => simp [intOf]; omega
            | false =>
              subst hz
              have HTA := HR2.out.1.tb _ _ _ HB.out
              have z0 := HTA.fz (k * 2)
              have z1 := HTA.fz (k * 2 + 1)
              have HF := Lib.hid (show RowW B N g w ((wa.setCell ⟨g, k * 2, none⟩ (.int .i64 xd)).setCell ⟨g, k * 2 + 1, none⟩ (.slice xa xn xc)) from HR2.out.put2 HB.out rfl k (HGX.out.goes (Goes.all HKA.out)))
              clear HTA ka
              go_wp2_with fail
              go_roundw
              case rel => exact ⟨k + 1, j + 1 + 1, by go_num, by go_num, by omega, by omega, by omega, by omega, HF.out⟩
              case measure => simp [intOf]; omega
          · have hdk2 : decide ((k2 : Int) < (m : Int)) = false := by simp; omega
            obtain ⟨w9, hclr, hgo, hkp9⟩ := wOk6.clear ⟨_, by kernel_rfl, Tryz.zeroValue105⟩ (wSep 6 (by decide)) wi B N g cap k (n - k) (cap - k) 2 rfl HT.out (by omega) (by omega)
            have HE := Lib.hid (show RowW B N g w w9 from ⟨HRW.out.1.trans hgo, HRW.out.2.trans hkp9⟩)
            have HG := Lib.hid (show Gd Θw B N w9 (.sl 6) (.slice (some ⟨g, 0, none⟩) k cap) from Gd.shorter (HE.out.1.tb _ _ _ HB.out) hnN (by omega) hnc)
            have HBL := Lib.hid (fun b (h : LowS B w b) => h.ne HB.out (by decide))
            have f5 : (k : Int) < (n : Int) := by omega
            clear hgo hkp9
            go_wp2_with fail
            go_ret
            exact ⟨_, k, cap, rfl, by omega, HG.out, HE.out.1, HE.out.2.mono (fun b hb2 => HBL.out b hb2)⟩
    · have hdk : decide ((kp : Int) + 1 < (n : Int)) = false := by simp; omega
      have HG := Lib.hid (show Gd Θw B N wo (.sl 6) (.slice (some ⟨g, 0, none⟩) n cap) from Gd.of_slice hnN hnc rfl ((Goes.all hall).tb _ _ _ HB.out))
      go_wp2_with fail
      go_ret
      exact ⟨_, n, cap, rfl, Nat.le_refl _, HG.out, Goes.all hall, hall.all⟩

end Go.Proofs.YtgobnlgmbplggaaGreatDoor
