/- Where a question is, where an answer is. -/
import Derived.Test.YtjbaijgdkkccbaaGreatDoorAa
import Derived.Test.YtjbaijgdkkccbaaGreatDoorKb
import Derived.Test.YtjbaijgdkkccbaaGreatDoorKc
import Derived.Deep.CutBlock
import Derived.Deep.DeepCutAuto
namespace Go.Proofs.YtjbaijgdkkccbaaGreatDoor
open Go.RowKit

/-- Function value g with what it has captured answers p. -/
def AnswersQ (P : Program) (g : FuncId) (caps : Array Value) (w : World) (p : Qst → Bool) : Prop :=
  ∀ (y : Qst) (oa : Option Addr) (oc : Nat) (wx : World), All w wx → Calls P g (#[.agg #[.string y.key, .int .i64 y.kind, .int .i64 y.most, .slice oa y.opts.length oc, .bool y.needed, .bool y.secret]] ++ caps) wx fun e w' => e = .returned (.bool (p y)) ∧ All wx w'
set_option maxHeartbeats 1600000 in
theorem indexQst_any (g : FuncId) (caps : Array Value) (eg : ∀ args w, (callFunc g args).run Tryz.prog w = .ok (.enter g args) w) (p : Qst → Bool)
    (a : Option Addr) (len cap : Nat) (ss : List Qst) (w : World) (hs : Sl RQst 6 (fun _ => True) w a len ss) (hl : len ≤ 1000000) (hp : AnswersQ Tryz.prog g caps w p) :
    Calls Tryz.prog 166 #[.slice a len cap, .func (.func g) #[] caps] w fun e w' => e = .returned (.int .i64 (findG p 0 ss)) ∧ All w w' := by
  have hlen := hs.len
  have HP := Lib.hid hp
  clear hp
  go_enter Tryz.func166, Tryz.ntmps166
  go_wp2
  go_loopw [5, 8] (fun _ i wr => ∃ k : Nat, k ≤ len ∧ i = .int .i64 k ∧ (ss.take k).any p = false ∧ All w wr) (fun _ i _ => len - (intOf i).toNat)
  case atStart => exact ⟨0, Nat.zero_le _, rfl, by simp, Kept.refl _ _⟩
  case round =>
    obtain ⟨k, hk, rfl, hnot, hall⟩ := hrel
    by_cases hlt : k < len
    · obtain ⟨b, off, y, oa, oc, ha, -, c0, c1, c2, c3, c4, c5, -, -, -, hy, htake⟩ := (hs.keep RQst.ok hall).atQst hlt
      have hltake : (ss.take k).length = k := by simp; omega
      have hsplit : ss = ss.take k ++ y :: ss.drop (k + 1) := by rw [← drop_at hy, List.take_append_drop]
      have Hsplit := Lib.hid hsplit
      have Htake := Lib.hid htake
      have Hl := Lib.hid hltake
      have Hnot := Lib.hid hnot
      clear hsplit htake hltake hlen hnot hy
      subst ha
      clear hs
      cases hpy : p y with
      | true =>
        have hfin : findG p 0 ss = k := by rw [Hsplit.out, findG_append Hnot.out, Hl.out, findG, if_pos hpy]; simp
        have Hfin := Lib.hid hfin
        clear hfin
        go_wp2_with fail
        refine (HP.out y oa oc _ hall).mono ?_
        rintro e w' ⟨rfl, hw⟩
        rw [hpy]
        go_wp2_with fail
        go_ret
        exact ⟨ret_int' Hfin.out.symm, hall.trans hw⟩
      | false =>
        go_wp2_with fail
        refine (HP.out y oa oc _ hall).mono ?_
        rintro e w' ⟨rfl, hw⟩
        rw [hpy]
        go_wp2_with fail
        go_roundw
        case rel => exact ⟨k + 1, by omega, by go_num, by rw [Htake.out, List.any_append, Hnot.out]; simp [hpy], hall.trans hw⟩
        case measure => simp [intOf]; omega
    · have hd : decide ((k : Int) < (len : Int)) = false := by simp; omega
      have hfin : findG p 0 ss = -1 := findG_neg (by rw [List.take_of_length_le (by omega)] at hnot; exact hnot)
      have Hfin := Lib.hid hfin
      clear hfin
      go_wp2
      go_ret
      exact ⟨ret_int' Hfin.out.symm, hall⟩

theorem place1_any (kp : Nat) (p : ByteArray) (y : Qst) (oa : Option Addr) (oc : Nat) (w : World) (ck : w.cell? ⟨kp, 0, none⟩ = some (.string p)) :
    Calls Tryz.prog 244 #[.agg #[.string y.key, .int .i64 y.kind, .int .i64 y.most, .slice oa y.opts.length oc, .bool y.needed, .bool y.secret], .pointer (some ⟨kp, 0, none⟩)] w fun e w' => e = .returned (.bool (isQ p y)) ∧ All w w' := by
  have hkp := lt_of_cell ck
  dsimp only at hkp
  have e1 : (y.key.toList == p.toList) = isQ p y := by
    by_cases h : y.key = p
    · simp [isQ, h]
    · have h2 : (y.key.toList == p.toList) = false := by simp; exact fun e => h (bytes_ext e)
      rw [h2]; simp [isQ, h]
  generalize isQ p y = b at e1 ⊢
  go_enter Tryz.func244, Tryz.ntmps244
  go_wp2_with fail
  go_ret
  exact ⟨rfl, Kept.alloc _ _ _⟩

theorem questionAt1_any (kp : Nat) (p : ByteArray) (y : Qst) (oa : Option Addr) (oc : Nat) (w : World) (ck : w.cell? ⟨kp, 0, none⟩ = some (.string p)) :
    Calls Tryz.prog 167 #[.agg #[.string y.key, .int .i64 y.kind, .int .i64 y.most, .slice oa y.opts.length oc, .bool y.needed, .bool y.secret], .pointer (some ⟨kp, 0, none⟩)] w fun e w' => e = .returned (.bool (isQ p y)) ∧ All w w' := by
  have hkp := lt_of_cell ck
  dsimp only at hkp
  have e1 : (y.key.toList == p.toList) = isQ p y := by
    by_cases h : y.key = p
    · simp [isQ, h]
    · have h2 : (y.key.toList == p.toList) = false := by simp; exact fun e => h (bytes_ext e)
      rw [h2]; simp [isQ, h]
  generalize isQ p y = b at e1 ⊢
  go_enter Tryz.func167, Tryz.ntmps167
  go_wp2_with fail
  go_ret
  exact ⟨rfl, Kept.alloc _ _ _⟩

theorem place_any (a : Option Addr) (len cap : Nat) (xs : List Qst) (p : ByteArray) (w : World) (hs : Sl RQst 6 (fun _ => True) w a len xs) (hl : len ≤ 1000000) :
    Calls Tryz.prog 163 #[.slice a len cap, .string p] w fun e w' => e = .returned (.int .i64 (findG (isQ p) 0 xs)) ∧ All w w' := by
  have hk1 : All w (w.alloc (.cells #[.string p] 9)) := Kept.alloc _ _ _
  have ha := heap_at w (.cells #[.string p] 9) _ rfl
  have hans : AnswersQ Tryz.prog 244 #[.pointer (some ⟨w.heap.size, 0, none⟩)] (w.alloc (.cells #[.string p] 9)) (isQ p) := fun y oa oc wx hwx =>
    place1_any _ p y oa oc wx (hwx.cell (cell_at ha rfl) trivial)
  have eg : ∀ args w, (callFunc 244 args).run Tryz.prog w = .ok (.enter 244 args) w := enters_of Tryz.func244 (by kernel_rfl) rfl
  have HF := Lib.hid (indexQst_any 244 _ eg (isQ p) a len cap xs _ (hs.keep RQst.ok hk1) hl hans)
  have hmf' := hmfC
  clear hans eg ha hs
  go_enter Tryz.func163, Tryz.ntmps163
  go_wp2_with fail
  refine HF.out.mono ?_
  rintro e w2 ⟨rfl, hw2⟩
  go_wp2_with fail
  go_ret
  exact ⟨rfl, hk1.trans hw2⟩

theorem questionAt_any (a : Option Addr) (len cap : Nat) (xs : List Qst) (p : ByteArray) (w : World) (hs : Sl RQst 6 (fun _ => True) w a len xs) (hl : len ≤ 1000000) :
    Calls Tryz.prog 99 #[.slice a len cap, .string p] w fun e w' => e = .returned (.int .i64 (findG (isQ p) 0 xs)) ∧ All w w' := by
  have hk1 : All w (w.alloc (.cells #[.string p] 9)) := Kept.alloc _ _ _
  have ha := heap_at w (.cells #[.string p] 9) _ rfl
  have hans : AnswersQ Tryz.prog 167 #[.pointer (some ⟨w.heap.size, 0, none⟩)] (w.alloc (.cells #[.string p] 9)) (isQ p) := fun y oa oc wx hwx =>
    questionAt1_any _ p y oa oc wx (hwx.cell (cell_at ha rfl) trivial)
  have eg : ∀ args w, (callFunc 167 args).run Tryz.prog w = .ok (.enter 167 args) w := enters_of Tryz.func167 (by kernel_rfl) rfl
  have HF := Lib.hid (indexQst_any 167 _ eg (isQ p) a len cap xs _ (hs.keep RQst.ok hk1) hl hans)
  have hmf' := hmfC
  clear hans eg ha hs
  go_enter Tryz.func99, Tryz.ntmps99
  go_wp2_with fail
  refine HF.out.mono ?_
  rintro e w2 ⟨rfl, hw2⟩
  go_wp2_with fail
  go_ret
  exact ⟨rfl, hk1.trans hw2⟩

end Go.Proofs.YtjbaijgdkkccbaaGreatDoor

/- Sheets: differentKeys, questionFault, CheckSheet, SheetFault. -/
namespace Go.Proofs.YtjbaijgdkkccbaaGreatDoor
open Go.RowKit


set_option maxHeartbeats 1600000 in
theorem differentKeys_any (a : Option Addr) (len cap : Nat) (ss : List ByteArray) (w : World) (hs : Sl RStr 1 (fun _ => True) w a len ss) (hl : len ≤ 1000000) (hcap : len ≤ cap) :
    Calls Tryz.prog 251 #[.slice a len cap] w fun e w' => e = .returned (.int .i64 (orderG [] ss)) ∧ All w w' := by
  have Hlen := Lib.hid hs.len
  go_enter Tryz.func251, Tryz.ntmps251
  go_wp2_with fail
  go_loopw [7] (fun i wr => ∃ k : Nat, k ≤ len ∧ i = .int .i64 k ∧ OrderAt ss k ∧ All w wr) (fun i _ => len - (intOf i).toNat)
  case atStart => exact ⟨0, Nat.zero_le _, rfl, OrderAt.zero _, Kept.refl _ _⟩
  case round =>
    obtain ⟨k, hk, rfl, hat, hwr⟩ := hrel
    obtain ⟨wo, rfl⟩ : ∃ wo : World, wo = wr := ⟨_, rfl⟩
    have HA := Lib.hid hat
    clear hat
    by_cases hlt : k < len
    · have hsk := hs.keep RStr.ok hwr
      obtain ⟨b, off, y, ha, -, c0, hz, hy, -, htk⟩ := hsk.atStr hlt
      subst ha
      have HY := Lib.hid hy
      have HSL := Lib.hid (fun (wx : World) (h : All wo wx) => (hsk.keep RStr.ok h).take (k := k) (by omega))
      clear hy htk hs hsk
      cases hky : isKeyB y with
      | false =>
        go_wp2_with fail
        refine (isKey_any _ _ (by omega)).mono ?_
        rintro e w2 ⟨rfl, hh⟩
        subst hh
        rw [hky]
        go_wp2_with fail
        go_ret
        exact ⟨ret_int' (HA.out.name HY.out hky).symm, hwr⟩
      | true =>
        have HK := Lib.hid hky
        cases hme : memB y (ss.take k) with
        | true =>
          have HM := Lib.hid hme
          go_wp2_with fail
          refine (isKey_any _ _ (by omega)).mono ?_
          rintro e w2 ⟨rfl, hh⟩
          subst hh
          rw [hky]
          go_wp2_with fail
          refine (contains_any _ k cap (ss.take k) y _ (HSL.out _ (Kept.refl _ _)) (by omega)).mono ?_
          rintro e w3 ⟨rfl, hh⟩
          subst hh
          rw [hme]
          go_wp2_with fail
          go_ret
          exact ⟨ret_int' (HA.out.twice HY.out HK.out HM.out).symm, hwr⟩
        | false =>
          have HM := Lib.hid hme
          go_wp2_with fail
          refine (isKey_any _ _ (by omega)).mono ?_
          rintro e w2 ⟨rfl, hh⟩
          subst hh
          rw [hky]
          go_wp2_with fail
          refine (contains_any _ k cap (ss.take k) y _ (HSL.out _ (Kept.refl _ _)) (by omega)).mono ?_
          rintro e w3 ⟨rfl, hh⟩
          subst hh
          rw [hme]
          go_wp2_with fail
          go_roundw
          case rel => exact ⟨k + 1, by omega, by go_num, HA.out.next HY.out HK.out HM.out, hwr⟩
          case measure => simp [intOf]; omega
    · have hdk : decide ((k : Int) < (len : Int)) = false := by simp; omega
      go_wp2_with fail
      go_ret
      exact ⟨ret_int' (HA.out.ok (by have := Hlen.out; omega)).symm, hwr⟩

set_option maxRecDepth 100000 in
set_option maxHeartbeats 3200000 in
theorem questionFault_any (q : Qst) (oa : Option Addr) (oc : Nat) (w : World) (hsm : QstSmall q) (hcp : q.opts.length ≤ oc) (hs : Sl RStr 1 (fun _ => True) w oa q.opts.length q.opts) :
    Calls Tryz.prog 179 #[.agg #[.string q.key, .int .i64 q.kind, .int .i64 q.most, .slice oa q.opts.length oc, .bool q.needed, .bool q.secret]] w fun e w' => e = .returned (.int .i64 (questF q)) ∧ All w w' := by
  obtain ⟨key, kind, most, opts, needed, secret⟩ := q
  obtain ⟨-, hsm⟩ := hsm
  dsimp only at *
  obtain ⟨m, hm⟩ : ∃ m, m = opts.length := ⟨_, rfl⟩
  have HM := Lib.hid hm
  rw [← hm] at hs hcp hsm ⊢
  clear hm
  have hk1 : All w (w.alloc (.cells #[.string key, .int .i64 kind, .int .i64 most, .slice oa m oc, .bool needed, .bool secret] 146)) := Kept.alloc _ _ _
  have hblk := heap_at w (.cells #[.string key, .int .i64 kind, .int .i64 most, .slice oa m oc, .bool needed, .bool secret] 146) _ rfl
  have e0 := cell_at (i := 0) hblk rfl
  have e1 := cell_at (i := 1) hblk rfl
  have e2 := cell_at (i := 2) hblk rfl
  have e3 := cell_at (i := 3) hblk rfl
  have e4 := cell_at (i := 4) hblk rfl
  have e5 := cell_at (i := 5) hblk rfl
  have HD := Lib.hid (differentKeys_any oa m oc opts _ (hs.keep RStr.ok hk1) (by omega) hcp)
  clear hblk hs
  go_enter Tryz.func179, Tryz.ntmps179
  by_cases hkd : kind < 1 ∨ 3 < kind
  · have hd : decide (kind < (1 : Int) ∨ 3 < kind) = true := by simp; omega
    have hfin := Lib.hid (show questF ⟨key, kind, most, opts, needed, secret⟩ = 4 from by rw [questF, if_pos (by dsimp only; have := HM.out; omega)])
    (try clear hm0)
    go_wp2_with fail
    refine (outside_any kind 1 3 _).mono ?_
    rintro e wq ⟨rfl, hh⟩
    subst hh
    rw [hd]
    go_wp2_with fail
    go_ret
    exact ⟨ret_int' hfin.out.symm, hk1⟩
  · have hk3 : kind = 1 ∨ kind = 2 ∨ kind = 3 := by omega
    clear hkd
    rcases hk3 with rfl | rfl | rfl
    · by_cases hms : most < 1 ∨ 100 < most
      · have hd : decide (most < 1 ∨ 100 < most) = true := by simp; omega
        have hfin := Lib.hid (show questF ⟨key, 1, most, opts, needed, secret⟩ = 1 from by rw [questF, if_neg (by dsimp only; have := HM.out; omega), if_pos (by dsimp only; have := HM.out; omega)])
        (try clear hm0)
        go_wp2_with fail
        refine (outside_any 1 1 3 _).mono ?_
        rintro e wq ⟨rfl, hh⟩
        subst hh
        rw [(show decide ((1 : Int) < (1 : Int) ∨ 3 < (1 : Int)) = false from rfl)]
        go_wp2_with fail
        refine (outside_any most 1 100 _).mono ?_
        rintro e wq ⟨rfl, hh⟩
        subst hh
        rw [hd]
        go_wp2_with fail
        go_ret
        exact ⟨ret_int' hfin.out.symm, hk1⟩
      · have hd : decide (most < 1 ∨ 100 < most) = false := by simp; omega
        by_cases hm0 : m = 0
        · have h20 : decide ((20 : Int) < (m : Int)) = false := by simp; omega
          have hg : decide (0 < m) = false := by simp; omega
          have HQ := Lib.hid (show questF ⟨key, 1, most, opts, needed, secret⟩ = orderG [] opts from by rw [questF, if_neg (by dsimp only; have := HM.out; omega), if_neg (by dsimp only; have := HM.out; omega), if_neg (by dsimp only; have := HM.out; omega), if_neg (by dsimp only; have := HM.out; omega)])
          clear hm0 hms
          go_wp2_with fail
          refine (outside_any 1 1 3 _).mono ?_
          rintro e wq ⟨rfl, hh⟩
          subst hh
          rw [(show decide ((1 : Int) < (1 : Int) ∨ 3 < (1 : Int)) = false from rfl)]
          go_wp2_with fail
          refine (outside_any most 1 100 _).mono ?_
          rintro e wq ⟨rfl, hh⟩
          subst hh
          rw [hd]
          go_wp2_with fail
          refine HD.out.mono ?_
          rintro e w2 ⟨rfl, hw2⟩
          go_wp2_with fail
          go_ret
          exact ⟨ret_int' HQ.out.symm, hk1.trans hw2⟩
        · have hg : decide (0 < m) = true := by simp; omega
          have hfin := Lib.hid (show questF ⟨key, 1, most, opts, needed, secret⟩ = 3 from by rw [questF, if_neg (by dsimp only; have := HM.out; omega), if_neg (by dsimp only; have := HM.out; omega), if_pos (by dsimp only; have := HM.out; omega)])
          (try clear hm0)
          go_wp2_with fail
          refine (outside_any 1 1 3 _).mono ?_
          rintro e wq ⟨rfl, hh⟩
          subst hh
          rw [(show decide ((1 : Int) < (1 : Int) ∨ 3 < (1 : Int)) = false from rfl)]
          go_wp2_with fail
          refine (outside_any most 1 100 _).mono ?_
          rintro e wq ⟨rfl, hh⟩
          subst hh
          rw [hd]
          go_wp2_with fail
          go_ret
          exact ⟨ret_int' hfin.out.symm, hk1⟩
    · by_cases hms : most = 0
      · subst hms
        by_cases hm0 : m = 0
        · have hg : decide (0 < m) = false := by simp; omega
          have hfin := Lib.hid (show questF ⟨key, 2, 0, opts, needed, secret⟩ = 3 from by rw [questF, if_neg (by dsimp only; have := HM.out; omega), if_neg (by dsimp only; have := HM.out; omega), if_pos (by dsimp only; have := HM.out; omega)])
          (try clear hm0)
          go_wp2_with fail
          refine (outside_any 2 1 3 _).mono ?_
          rintro e wq ⟨rfl, hh⟩
          subst hh
          rw [(show decide ((2 : Int) < (1 : Int) ∨ 3 < (2 : Int)) = false from rfl)]
          go_wp2_with fail
          go_ret
          exact ⟨ret_int' hfin.out.symm, hk1⟩
        · have hg : decide (0 < m) = true := by simp; omega
          by_cases hmm : 20 < m
          · have h20 : decide ((20 : Int) < (m : Int)) = true := by simp; omega
            have hfin := Lib.hid (show questF ⟨key, 2, 0, opts, needed, secret⟩ = 2 from by rw [questF, if_neg (by dsimp only; have := HM.out; omega), if_neg (by dsimp only; have := HM.out; omega), if_neg (by dsimp only; have := HM.out; omega), if_pos (by dsimp only; have := HM.out; omega)])
            (try clear hm0)
            go_wp2_with fail
            refine (outside_any 2 1 3 _).mono ?_
            rintro e wq ⟨rfl, hh⟩
            subst hh
            rw [(show decide ((2 : Int) < (1 : Int) ∨ 3 < (2 : Int)) = false from rfl)]
            go_wp2_with fail
            go_ret
            exact ⟨ret_int' hfin.out.symm, hk1⟩
          · have h20 : decide ((20 : Int) < (m : Int)) = false := by simp; omega
            have HQ := Lib.hid (show questF ⟨key, 2, 0, opts, needed, secret⟩ = orderG [] opts from by rw [questF, if_neg (by dsimp only; have := HM.out; omega), if_neg (by dsimp only; have := HM.out; omega), if_neg (by dsimp only; have := HM.out; omega), if_neg (by dsimp only; have := HM.out; omega)])
            clear hm0 hmm
            go_wp2_with fail
            refine (outside_any 2 1 3 _).mono ?_
            rintro e wq ⟨rfl, hh⟩
            subst hh
            rw [(show decide ((2 : Int) < (1 : Int) ∨ 3 < (2 : Int)) = false from rfl)]
            go_wp2_with fail
            refine HD.out.mono ?_
            rintro e w2 ⟨rfl, hw2⟩
            go_wp2_with fail
            go_ret
            exact ⟨ret_int' HQ.out.symm, hk1.trans hw2⟩
      · have hmq : (most == 0) = false := by simpa using hms
        have hfin := Lib.hid (show questF ⟨key, 2, most, opts, needed, secret⟩ = 3 from by rw [questF, if_neg (by dsimp only; have := HM.out; omega), if_neg (by dsimp only; have := HM.out; omega), if_pos (by dsimp only; have := HM.out; omega)])
        (try clear hm0)
        go_wp2_with fail
        refine (outside_any 2 1 3 _).mono ?_
        rintro e wq ⟨rfl, hh⟩
        subst hh
        rw [(show decide ((2 : Int) < (1 : Int) ∨ 3 < (2 : Int)) = false from rfl)]
        go_wp2_with fail
        go_ret
        exact ⟨ret_int' hfin.out.symm, hk1⟩
    · by_cases hms : most < 1 ∨ 5000 < most
      · have hd : decide (most < 1 ∨ 5000 < most) = true := by simp; omega
        have hfin := Lib.hid (show questF ⟨key, 3, most, opts, needed, secret⟩ = 1 from by rw [questF, if_neg (by dsimp only; have := HM.out; omega), if_pos (by dsimp only; have := HM.out; omega)])
        (try clear hm0)
        go_wp2_with fail
        refine (outside_any 3 1 3 _).mono ?_
        rintro e wq ⟨rfl, hh⟩
        subst hh
        rw [(show decide ((3 : Int) < (1 : Int) ∨ 3 < (3 : Int)) = false from rfl)]
        go_wp2_with fail
        refine (outside_any most 1 5000 _).mono ?_
        rintro e wq ⟨rfl, hh⟩
        subst hh
        rw [hd]
        go_wp2_with fail
        go_ret
        exact ⟨ret_int' hfin.out.symm, hk1⟩
      · have hd : decide (most < 1 ∨ 5000 < most) = false := by simp; omega
        by_cases hm0 : m = 0
        · have h20 : decide ((20 : Int) < (m : Int)) = false := by simp; omega
          have hg : decide (0 < m) = false := by simp; omega
          have HQ := Lib.hid (show questF ⟨key, 3, most, opts, needed, secret⟩ = orderG [] opts from by rw [questF, if_neg (by dsimp only; have := HM.out; omega), if_neg (by dsimp only; have := HM.out; omega), if_neg (by dsimp only; have := HM.out; omega), if_neg (by dsimp only; have := HM.out; omega)])
          clear hm0 hms
          go_wp2_with fail
          refine (outside_any 3 1 3 _).mono ?_
          rintro e wq ⟨rfl, hh⟩
          subst hh
          rw [(show decide ((3 : Int) < (1 : Int) ∨ 3 < (3 : Int)) = false from rfl)]
          go_wp2_with fail
          refine (outside_any most 1 5000 _).mono ?_
          rintro e wq ⟨rfl, hh⟩
          subst hh
          rw [hd]
          go_wp2_with fail
          refine HD.out.mono ?_
          rintro e w2 ⟨rfl, hw2⟩
          go_wp2_with fail
          go_ret
          exact ⟨ret_int' HQ.out.symm, hk1.trans hw2⟩
        · have hg : decide (0 < m) = true := by simp; omega
          have hfin := Lib.hid (show questF ⟨key, 3, most, opts, needed, secret⟩ = 3 from by rw [questF, if_neg (by dsimp only; have := HM.out; omega), if_neg (by dsimp only; have := HM.out; omega), if_pos (by dsimp only; have := HM.out; omega)])
          (try clear hm0)
          go_wp2_with fail
          refine (outside_any 3 1 3 _).mono ?_
          rintro e wq ⟨rfl, hh⟩
          subst hh
          rw [(show decide ((3 : Int) < (1 : Int) ∨ 3 < (3 : Int)) = false from rfl)]
          go_wp2_with fail
          refine (outside_any most 1 5000 _).mono ?_
          rintro e wq ⟨rfl, hh⟩
          subst hh
          rw [hd]
          go_wp2_with fail
          go_ret
          exact ⟨ret_int' hfin.out.symm, hk1⟩

set_option maxRecDepth 100000 in
set_option maxHeartbeats 3200000 in
theorem checkSheet_any (a : Option Addr) (len cap : Nat) (xs : List Qst) (w : World) (hs : Sl RQst 6 (fun _ => True) w a len xs) (hl : len ≤ 1000000) :
    Calls Tryz.prog 111 #[.slice a len cap] w fun e w' => e = .returned (.int .i64 (sheetF xs)) ∧ All w w' := by
  have Hlen := Lib.hid hs.len
  by_cases hz : len = 0
  · subst hz
    have hfin := Lib.hid (sheetF_none (xs := xs) Hlen.out)
    clear hs
    go_enter Tryz.func111, Tryz.ntmps111
    go_wp2_with fail
    go_ret
    exact ⟨ret_int' hfin.out.symm, Kept.refl _ _⟩
  have hz' : ((len : Int) == 0) = false := by simp; omega
  by_cases hbig : 30 < len
  · have hfin := Lib.hid (sheetF_large (xs := xs) (by have := Hlen.out; omega))
    have hd : decide ((30 : Int) < (len : Int)) = true := by simp; omega
    clear hs
    go_enter Tryz.func111, Tryz.ntmps111
    go_wp2_with fail
    go_ret
    exact ⟨ret_int' hfin.out.symm, Kept.refl _ _⟩
  have hfin := Lib.hid (sheetF_some (xs := xs) (by have := Hlen.out; omega) (by have := Hlen.out; omega))
  have hd : decide ((30 : Int) < (len : Int)) = false := by simp; omega
  clear hz
  go_enter Tryz.func111, Tryz.ntmps111
  go_wp2_with fail
  go_loopw [14] (fun i wr => ∃ k : Nat, k ≤ len ∧ i = .int .i64 k ∧ SheetAt xs k ∧ All w wr) (fun i _ => len - (intOf i).toNat)
  case atStart => exact ⟨0, Nat.zero_le _, rfl, SheetAt.zero _, Kept.refl _ _⟩
  case round =>
    obtain ⟨k, hk, rfl, hat, hwr⟩ := hrel
    obtain ⟨wo, rfl⟩ : ∃ wo : World, wo = wr := ⟨_, rfl⟩
    have HA := Lib.hid hat
    clear hat
    by_cases hlt : k < len
    · obtain ⟨b, off, q, oa, oc, ha, -, c0, c1, c2, c3, c4, c5, hcp, ⟨hz1, hz2⟩, hos, hq, htk⟩ := (hs.keep RQst.ok hwr).atQst hlt
      subst ha
      have Hq := Lib.hid hq
      have hwa := hwr.then_alloc (.cells #[.string q.key, .int .i64 q.kind, .int .i64 q.most, .slice oa q.opts.length oc, .bool q.needed, .bool q.secret] 146)
      have hko : All wo (wo.alloc (.cells #[.string q.key, .int .i64 q.kind, .int .i64 q.most, .slice oa q.opts.length oc, .bool q.needed, .bool q.secret] 146)) := Kept.alloc _ _ _
      have hblk := heap_at wo (.cells #[.string q.key, .int .i64 q.kind, .int .i64 q.most, .slice oa q.opts.length oc, .bool q.needed, .bool q.secret] 146) _ rfl
      have e0 := cell_at (i := 0) hblk rfl
      have e1 := cell_at (i := 1) hblk rfl
      have e2 := cell_at (i := 2) hblk rfl
      have e3 := cell_at (i := 3) hblk rfl
      have e4 := cell_at (i := 4) hblk rfl
      have e5 := cell_at (i := 5) hblk rfl
      have HP := Lib.hid (fun (wx : World) (h : All w wx) => place_any (some ⟨b, off, none⟩) len cap xs q.key wx (hs.keep RQst.ok h) hl)
      have hos1 := hos.keep RStr.ok hko
      have hz3 : q.key.size ≤ 1000000 := hz1
      clear hq htk hblk hs hos
      cases h1 : isKeyB q.key with
      | false =>
        go_wp2_with fail
        refine (isKey_any _ _ (by omega)).mono ?_
        rintro e w2 ⟨rfl, hh⟩
        subst hh
        rw [h1]
        go_wp2_with fail
        go_ret
        exact ⟨ret_int' (by rw [hfin.out]; exact (HA.out.name Hq.out h1).symm), hwa⟩
      | true =>
        have HK := Lib.hid h1
        obtain ⟨fi, hfi⟩ : ∃ fi, fi = findG (isQ q.key) 0 xs := ⟨_, rfl⟩
        have HFI := Lib.hid hfi
        have hos3 := hos1
        clear hos1 hfi
        by_cases h2 : fi < (k : Int)
        · have hd2 : decide (fi < (k : Int)) = true := by simpa using h2
          have HB := Lib.hid (HA.out.twice Hq.out HK.out (by rw [← HFI.out]; exact h2))
          go_wp2_with fail
          refine (isKey_any _ _ (by omega)).mono ?_
          rintro e w2 ⟨rfl, hh⟩
          subst hh
          rw [h1]
          go_wp2_with fail
          refine (HP.out _ hwa).mono ?_
          rintro e w3 ⟨rfl, hw3⟩
          rw [← HFI.out]
          have hwb := hwa.trans hw3
          have f0 := hw3.cell e0 trivial
          have f1 := hw3.cell e1 trivial
          have f2 := hw3.cell e2 trivial
          have f3 := hw3.cell e3 trivial
          have f4 := hw3.cell e4 trivial
          have f5 := hw3.cell e5 trivial
          clear hwa
          go_wp2_with fail
          go_ret
          exact ⟨ret_int' (by rw [hfin.out]; exact (HB.out).symm), hwb⟩
        · have hd2 : decide (fi < (k : Int)) = false := by simpa using h2
          have HN := Lib.hid (show (k : Int) ≤ findG (isQ q.key) 0 xs by rw [← HFI.out]; omega)
          obtain ⟨qf, hqf⟩ : ∃ z, z = questF q := ⟨_, rfl⟩
          have HQF := Lib.hid hqf
          clear hqf
          go_wp2_with fail
          refine (isKey_any _ _ (by omega)).mono ?_
          rintro e w2 ⟨rfl, hh⟩
          subst hh
          rw [h1]
          go_wp2_with fail
          refine (HP.out _ hwa).mono ?_
          rintro e w3 ⟨rfl, hw3⟩
          rw [← HFI.out]
          have hwb := hwa.trans hw3
          have f0 := hw3.cell e0 trivial
          have f1 := hw3.cell e1 trivial
          have f2 := hw3.cell e2 trivial
          have f3 := hw3.cell e3 trivial
          have f4 := hw3.cell e4 trivial
          have f5 := hw3.cell e5 trivial
          clear hwa
          have HQT := Lib.hid (questionFault_any q oa oc _ ⟨hz1, hz2⟩ hcp (hos3.keep RStr.ok hw3))
          clear hos3 hw3
          by_cases hq0 : qf = 0
          · subst hq0
            go_wp2_with fail
            refine HQT.out.mono ?_
            rintro e w4 ⟨rfl, hw4⟩
            rw [← HQF.out]
            go_wp2_with fail
            go_roundw
            case rel => exact ⟨k + 1, by omega, by go_num, HA.out.next Hq.out HK.out (Int.not_lt.2 HN.out) HQF.out.symm, hwb.trans hw4⟩
            case measure => simp [intOf]; omega
          · have hq1 : (qf == 0) = false := by simpa using hq0
            have HB := Lib.hid (HA.out.bad Hq.out HK.out (Int.not_lt.2 HN.out) HQF.out.symm hq0)
            go_wp2_with fail
            refine HQT.out.mono ?_
            rintro e w4 ⟨rfl, hw4⟩
            rw [← HQF.out]
            go_wp2_with fail
            go_ret
            exact ⟨ret_int' (by rw [hfin.out]; exact (HB.out).symm), hwb.trans hw4⟩
    · have hdk : decide ((k : Int) < (len : Int)) = false := by simp; omega
      go_wp2_with fail
      go_ret
      exact ⟨ret_int' (by rw [hfin.out]; exact (HA.out.ok (by have := Hlen.out; omega)).symm), hwr⟩

set_option maxRecDepth 100000 in
set_option maxHeartbeats 3200000 in
theorem sheetFault_any (a : Option Addr) (len cap : Nat) (xs : List Qst) (w : World) (hs : Sl RQst 6 (fun _ => True) w a len xs) (hl : len ≤ 1000000) :
    Calls Tryz.prog 44 #[.slice a len cap] w fun e w' => e = .returned (.int .i64 (sheetF xs)) ∧ All w w' := by
  have Hlen := Lib.hid hs.len
  by_cases hz : len = 0
  · subst hz
    have hfin := Lib.hid (sheetF_none (xs := xs) Hlen.out)
    clear hs
    go_enter Tryz.func44, Tryz.ntmps44
    go_wp2_with fail
    go_ret
    exact ⟨ret_int' hfin.out.symm, Kept.refl _ _⟩
  have hz' : ((len : Int) == 0) = false := by simp; omega
  by_cases hbig : 30 < len
  · have hfin := Lib.hid (sheetF_large (xs := xs) (by have := Hlen.out; omega))
    have hd : decide ((30 : Int) < (len : Int)) = true := by simp; omega
    clear hs
    go_enter Tryz.func44, Tryz.ntmps44
    go_wp2_with fail
    go_ret
    exact ⟨ret_int' hfin.out.symm, Kept.refl _ _⟩
  have hfin := Lib.hid (sheetF_some (xs := xs) (by have := Hlen.out; omega) (by have := Hlen.out; omega))
  have hd : decide ((30 : Int) < (len : Int)) = false := by simp; omega
  clear hz
  go_enter Tryz.func44, Tryz.ntmps44
  go_wp2_with fail
  go_loopw [17] (fun i wr => ∃ k : Nat, k ≤ len ∧ i = .int .i64 k ∧ SheetAt xs k ∧ All w wr) (fun i _ => len - (intOf i).toNat)
  case atStart => exact ⟨0, Nat.zero_le _, rfl, SheetAt.zero _, Kept.refl _ _⟩
  case round =>
    obtain ⟨k, hk, rfl, hat, hwr⟩ := hrel
    obtain ⟨wo, rfl⟩ : ∃ wo : World, wo = wr := ⟨_, rfl⟩
    have HA := Lib.hid hat
    clear hat
    by_cases hlt : k < len
    · obtain ⟨b, off, ⟨key, kind, most, opts, needed, secret⟩, oa, oc, ha, -, c0, c1, c2, c3, c4, c5, hcp, ⟨hz1, hz2⟩, hos, hq, htk⟩ := (hs.keep RQst.ok hwr).atQst hlt
      subst ha
      dsimp only at *
      obtain ⟨m, hm⟩ : ∃ m, m = opts.length := ⟨_, rfl⟩
      have HM := Lib.hid hm
      rw [← hm] at hos hcp c3 hz2
      clear hm
      have Hq := Lib.hid hq
      have hwa := hwr.then_alloc (.cells #[.string key, .int .i64 kind, .int .i64 most, .slice oa m oc, .bool needed, .bool secret] 146)
      have hko : All wo (wo.alloc (.cells #[.string key, .int .i64 kind, .int .i64 most, .slice oa m oc, .bool needed, .bool secret] 146)) := Kept.alloc _ _ _
      have hblk := heap_at wo (.cells #[.string key, .int .i64 kind, .int .i64 most, .slice oa m oc, .bool needed, .bool secret] 146) _ rfl
      have e0 := cell_at (i := 0) hblk rfl
      have e1 := cell_at (i := 1) hblk rfl
      have e2 := cell_at (i := 2) hblk rfl
      have e3 := cell_at (i := 3) hblk rfl
      have e4 := cell_at (i := 4) hblk rfl
      have e5 := cell_at (i := 5) hblk rfl
      have HP := Lib.hid (fun (wx : World) (h : All w wx) => questionAt_any (some ⟨b, off, none⟩) len cap xs key wx (hs.keep RQst.ok h) hl)
      have hos1 := hos.keep RStr.ok hko
      have hz3 : key.size ≤ 1000000 := hz1
      clear hq htk hblk hs hos
      go_upto_block 3 with fail
      go_cut [] (fun wx => isKeyB key = true ∧ questF ⟨key, kind, most, opts, needed, secret⟩ = orderG [] opts ∧ (k : Int) ≤ findG (isQ key) 0 xs ∧ wx.cell? ⟨wo.heap.size, 3, none⟩ = some (.slice oa m oc) ∧ Sl RStr 1 (fun _ => True) wx oa m opts ∧ All w wx)
      case first =>
        cases h1 : isKeyB key with
        | false =>
          go_wp2_with fail
          refine (key_any key _ hz1).mono ?_
          rintro e w2 ⟨rfl, hw2⟩
          rw [h1]
          go_wp2_with fail
          go_ret
          exact ⟨ret_int' (by rw [hfin.out]; exact (HA.out.name Hq.out h1).symm), hwa.trans hw2⟩
        | true =>
          have HK := Lib.hid h1
          obtain ⟨fi, hfi⟩ : ∃ fi, fi = findG (isQ key) 0 xs := ⟨_, rfl⟩
          have HFI := Lib.hid hfi
          clear hfi
          by_cases h2 : fi < (k : Int)
          · have hd2 : decide (fi < (k : Int)) = true := by simpa using h2
            have HB := Lib.hid (HA.out.twice Hq.out HK.out (by rw [← HFI.out]; exact h2))
            go_wp2_with fail
            refine (key_any key _ hz1).mono ?_
            rintro e w2 ⟨rfl, hw2⟩
            rw [h1]
            have hwx := hwa.trans hw2
            have g0 := hw2.cell e0 trivial
            have g1 := hw2.cell e1 trivial
            have g2 := hw2.cell e2 trivial
            have g3 := hw2.cell e3 trivial
            have g4 := hw2.cell e4 trivial
            have g5 := hw2.cell e5 trivial
            have hos2 := hos1.keep RStr.ok hw2
            clear hwa hos1 hw2
            go_wp2_with fail
            refine (HP.out _ hwx).mono ?_
            rintro e w3 ⟨rfl, hw3⟩
            rw [← HFI.out]
            have hwb := hwx.trans hw3
            have f0 := hw3.cell g0 trivial
            have f1 := hw3.cell g1 trivial
            have f2 := hw3.cell g2 trivial
            have f3 := hw3.cell g3 trivial
            have f4 := hw3.cell g4 trivial
            have f5 := hw3.cell g5 trivial
            have HO3 := Lib.hid (hos2.keep RStr.ok hw3)
            clear hwx hw3 hos2
            go_wp2_with fail
            go_ret
            exact ⟨ret_int' (by rw [hfin.out]; exact (HB.out).symm), hwb⟩
          · have hd2 : decide (fi < (k : Int)) = false := by simpa using h2
            have HN := Lib.hid (show (k : Int) ≤ findG (isQ key) 0 xs by rw [← HFI.out]; omega)
            go_wp2_with fail
            refine (key_any key _ hz1).mono ?_
            rintro e w2 ⟨rfl, hw2⟩
            rw [h1]
            have hwx := hwa.trans hw2
            have g0 := hw2.cell e0 trivial
            have g1 := hw2.cell e1 trivial
            have g2 := hw2.cell e2 trivial
            have g3 := hw2.cell e3 trivial
            have g4 := hw2.cell e4 trivial
            have g5 := hw2.cell e5 trivial
            have hos2 := hos1.keep RStr.ok hw2
            clear hwa hos1 hw2
            go_wp2_with fail
            refine (HP.out _ hwx).mono ?_
            rintro e w3 ⟨rfl, hw3⟩
            rw [← HFI.out]
            have hwb := hwx.trans hw3
            have f0 := hw3.cell g0 trivial
            have f1 := hw3.cell g1 trivial
            have f2 := hw3.cell g2 trivial
            have f3 := hw3.cell g3 trivial
            have f4 := hw3.cell g4 trivial
            have f5 := hw3.cell g5 trivial
            have HO3 := Lib.hid (hos2.keep RStr.ok hw3)
            clear hwx hw3 hos2
            clear h2
            by_cases hkd : kind < 1 ∨ 3 < kind
            · have hd : decide ((1 : Int) ≤ kind ∧ kind ≤ 3) = false := by simp; omega
              have hbad := Lib.hid (HA.out.bad Hq.out HK.out (Int.not_lt.2 HN.out) (show questF ⟨key, kind, most, opts, needed, secret⟩ = 4 from by rw [questF, if_pos (by dsimp only; have := HM.out; omega)]) (by decide))
              (try clear hm0)
              go_wp2_with fail
              refine (in_any kind 1 3 _).mono ?_
              rintro e wq ⟨rfl, hh⟩
              subst hh
              rw [hd]
              go_wp2_with fail
              go_ret
              exact ⟨ret_int' (by rw [hfin.out]; exact hbad.out.symm), hwb⟩
            · have hk3 : kind = 1 ∨ kind = 2 ∨ kind = 3 := by omega
              clear hkd
              rcases hk3 with rfl | rfl | rfl
              · by_cases hms : most < 1 ∨ 100 < most
                · have hd : decide (1 ≤ most ∧ most ≤ 100) = false := by simp; omega
                  have hbad := Lib.hid (HA.out.bad Hq.out HK.out (Int.not_lt.2 HN.out) (show questF ⟨key, 1, most, opts, needed, secret⟩ = 1 from by rw [questF, if_neg (by dsimp only; have := HM.out; omega), if_pos (by dsimp only; have := HM.out; omega)]) (by decide))
                  (try clear hm0)
                  go_wp2_with fail
                  refine (in_any 1 1 3 _).mono ?_
                  rintro e wq ⟨rfl, hh⟩
                  subst hh
                  rw [(show decide ((1 : Int) ≤ (1 : Int) ∧ (1 : Int) ≤ 3) = true from rfl)]
                  go_wp2_with fail
                  refine (in_any most 1 100 _).mono ?_
                  rintro e wq ⟨rfl, hh⟩
                  subst hh
                  rw [hd]
                  go_wp2_with fail
                  go_ret
                  exact ⟨ret_int' (by rw [hfin.out]; exact hbad.out.symm), hwb⟩
                · have hd : decide (1 ≤ most ∧ most ≤ 100) = true := by simp; omega
                  by_cases hm0 : m = 0
                  · have h20 : decide ((20 : Int) < (m : Int)) = false := by simp; omega
                    have hg : decide (0 < m) = false := by simp; omega
                    have HQ := Lib.hid (show questF ⟨key, 1, most, opts, needed, secret⟩ = orderG [] opts from by rw [questF, if_neg (by dsimp only; have := HM.out; omega), if_neg (by dsimp only; have := HM.out; omega), if_neg (by dsimp only; have := HM.out; omega), if_neg (by dsimp only; have := HM.out; omega)])
                    clear hm0 hms
                    go_wp2_with fail
                    refine (in_any 1 1 3 _).mono ?_
                    rintro e wq ⟨rfl, hh⟩
                    subst hh
                    rw [(show decide ((1 : Int) ≤ (1 : Int) ∧ (1 : Int) ≤ 3) = true from rfl)]
                    go_wp2_with fail
                    refine (in_any most 1 100 _).mono ?_
                    rintro e wq ⟨rfl, hh⟩
                    subst hh
                    rw [hd]
                    go_wp2_with fail
                    go_meet
                    exact ⟨HK.out, HQ.out, HN.out, f3, HO3.out, hwb⟩
                  · have hg : decide (0 < m) = true := by simp; omega
                    have hbad := Lib.hid (HA.out.bad Hq.out HK.out (Int.not_lt.2 HN.out) (show questF ⟨key, 1, most, opts, needed, secret⟩ = 3 from by rw [questF, if_neg (by dsimp only; have := HM.out; omega), if_neg (by dsimp only; have := HM.out; omega), if_pos (by dsimp only; have := HM.out; omega)]) (by decide))
                    (try clear hm0)
                    go_wp2_with fail
                    refine (in_any 1 1 3 _).mono ?_
                    rintro e wq ⟨rfl, hh⟩
                    subst hh
                    rw [(show decide ((1 : Int) ≤ (1 : Int) ∧ (1 : Int) ≤ 3) = true from rfl)]
                    go_wp2_with fail
                    refine (in_any most 1 100 _).mono ?_
                    rintro e wq ⟨rfl, hh⟩
                    subst hh
                    rw [hd]
                    go_wp2_with fail
                    go_ret
                    exact ⟨ret_int' (by rw [hfin.out]; exact hbad.out.symm), hwb⟩
              · by_cases hms : most = 0
                · subst hms
                  by_cases hm0 : m = 0
                  · have hg : decide (0 < m) = false := by simp; omega
                    have hbad := Lib.hid (HA.out.bad Hq.out HK.out (Int.not_lt.2 HN.out) (show questF ⟨key, 2, 0, opts, needed, secret⟩ = 3 from by rw [questF, if_neg (by dsimp only; have := HM.out; omega), if_neg (by dsimp only; have := HM.out; omega), if_pos (by dsimp only; have := HM.out; omega)]) (by decide))
                    (try clear hm0)
                    go_wp2_with fail
                    refine (in_any 2 1 3 _).mono ?_
                    rintro e wq ⟨rfl, hh⟩
                    subst hh
                    rw [(show decide ((1 : Int) ≤ (2 : Int) ∧ (2 : Int) ≤ 3) = true from rfl)]
                    go_wp2_with fail
                    go_ret
                    exact ⟨ret_int' (by rw [hfin.out]; exact hbad.out.symm), hwb⟩
                  · have hg : decide (0 < m) = true := by simp; omega
                    by_cases hmm : 20 < m
                    · have h20 : decide ((20 : Int) < (m : Int)) = true := by simp; omega
                      have hbad := Lib.hid (HA.out.bad Hq.out HK.out (Int.not_lt.2 HN.out) (show questF ⟨key, 2, 0, opts, needed, secret⟩ = 2 from by rw [questF, if_neg (by dsimp only; have := HM.out; omega), if_neg (by dsimp only; have := HM.out; omega), if_neg (by dsimp only; have := HM.out; omega), if_pos (by dsimp only; have := HM.out; omega)]) (by decide))
                      (try clear hm0)
                      go_wp2_with fail
                      refine (in_any 2 1 3 _).mono ?_
                      rintro e wq ⟨rfl, hh⟩
                      subst hh
                      rw [(show decide ((1 : Int) ≤ (2 : Int) ∧ (2 : Int) ≤ 3) = true from rfl)]
                      go_wp2_with fail
                      go_ret
                      exact ⟨ret_int' (by rw [hfin.out]; exact hbad.out.symm), hwb⟩
                    · have h20 : decide ((20 : Int) < (m : Int)) = false := by simp; omega
                      have HQ := Lib.hid (show questF ⟨key, 2, 0, opts, needed, secret⟩ = orderG [] opts from by rw [questF, if_neg (by dsimp only; have := HM.out; omega), if_neg (by dsimp only; have := HM.out; omega), if_neg (by dsimp only; have := HM.out; omega), if_neg (by dsimp only; have := HM.out; omega)])
                      clear hm0 hmm
                      go_wp2_with fail
                      refine (in_any 2 1 3 _).mono ?_
                      rintro e wq ⟨rfl, hh⟩
                      subst hh
                      rw [(show decide ((1 : Int) ≤ (2 : Int) ∧ (2 : Int) ≤ 3) = true from rfl)]
                      go_wp2_with fail
                      go_meet
                      exact ⟨HK.out, HQ.out, HN.out, f3, HO3.out, hwb⟩
                · have hmq : (most == 0) = false := by simpa using hms
                  have hbad := Lib.hid (HA.out.bad Hq.out HK.out (Int.not_lt.2 HN.out) (show questF ⟨key, 2, most, opts, needed, secret⟩ = 3 from by rw [questF, if_neg (by dsimp only; have := HM.out; omega), if_neg (by dsimp only; have := HM.out; omega), if_pos (by dsimp only; have := HM.out; omega)]) (by decide))
                  (try clear hm0)
                  go_wp2_with fail
                  refine (in_any 2 1 3 _).mono ?_
                  rintro e wq ⟨rfl, hh⟩
                  subst hh
                  rw [(show decide ((1 : Int) ≤ (2 : Int) ∧ (2 : Int) ≤ 3) = true from rfl)]
                  go_wp2_with fail
                  go_ret
                  exact ⟨ret_int' (by rw [hfin.out]; exact hbad.out.symm), hwb⟩
              · by_cases hms : most < 1 ∨ 5000 < most
                · have hd : decide (1 ≤ most ∧ most ≤ 5000) = false := by simp; omega
                  have hbad := Lib.hid (HA.out.bad Hq.out HK.out (Int.not_lt.2 HN.out) (show questF ⟨key, 3, most, opts, needed, secret⟩ = 1 from by rw [questF, if_neg (by dsimp only; have := HM.out; omega), if_pos (by dsimp only; have := HM.out; omega)]) (by decide))
                  (try clear hm0)
                  go_wp2_with fail
                  refine (in_any 3 1 3 _).mono ?_
                  rintro e wq ⟨rfl, hh⟩
                  subst hh
                  rw [(show decide ((1 : Int) ≤ (3 : Int) ∧ (3 : Int) ≤ 3) = true from rfl)]
                  go_wp2_with fail
                  refine (in_any most 1 5000 _).mono ?_
                  rintro e wq ⟨rfl, hh⟩
                  subst hh
                  rw [hd]
                  go_wp2_with fail
                  go_ret
                  exact ⟨ret_int' (by rw [hfin.out]; exact hbad.out.symm), hwb⟩
                · have hd : decide (1 ≤ most ∧ most ≤ 5000) = true := by simp; omega
                  by_cases hm0 : m = 0
                  · have h20 : decide ((20 : Int) < (m : Int)) = false := by simp; omega
                    have hg : decide (0 < m) = false := by simp; omega
                    have HQ := Lib.hid (show questF ⟨key, 3, most, opts, needed, secret⟩ = orderG [] opts from by rw [questF, if_neg (by dsimp only; have := HM.out; omega), if_neg (by dsimp only; have := HM.out; omega), if_neg (by dsimp only; have := HM.out; omega), if_neg (by dsimp only; have := HM.out; omega)])
                    clear hm0 hms
                    go_wp2_with fail
                    refine (in_any 3 1 3 _).mono ?_
                    rintro e wq ⟨rfl, hh⟩
                    subst hh
                    rw [(show decide ((1 : Int) ≤ (3 : Int) ∧ (3 : Int) ≤ 3) = true from rfl)]
                    go_wp2_with fail
                    refine (in_any most 1 5000 _).mono ?_
                    rintro e wq ⟨rfl, hh⟩
                    subst hh
                    rw [hd]
                    go_wp2_with fail
                    go_meet
                    exact ⟨HK.out, HQ.out, HN.out, f3, HO3.out, hwb⟩
                  · have hg : decide (0 < m) = true := by simp; omega
                    have hbad := Lib.hid (HA.out.bad Hq.out HK.out (Int.not_lt.2 HN.out) (show questF ⟨key, 3, most, opts, needed, secret⟩ = 3 from by rw [questF, if_neg (by dsimp only; have := HM.out; omega), if_neg (by dsimp only; have := HM.out; omega), if_pos (by dsimp only; have := HM.out; omega)]) (by decide))
                    (try clear hm0)
                    go_wp2_with fail
                    refine (in_any 3 1 3 _).mono ?_
                    rintro e wq ⟨rfl, hh⟩
                    subst hh
                    rw [(show decide ((1 : Int) ≤ (3 : Int) ∧ (3 : Int) ≤ 3) = true from rfl)]
                    go_wp2_with fail
                    refine (in_any most 1 5000 _).mono ?_
                    rintro e wq ⟨rfl, hh⟩
                    subst hh
                    rw [hd]
                    go_wp2_with fail
                    go_ret
                    exact ⟨ret_int' (by rw [hfin.out]; exact hbad.out.symm), hwb⟩
      case rest =>
        obtain ⟨hky0, hqo, hnot, hcl, hosd, hwc⟩ := hcut
        obtain ⟨wd, rfl⟩ : ∃ x : World, x = wc := ⟨_, rfl⟩
        have HQO := Lib.hid hqo
        have HN := Lib.hid hnot
        have HK := Lib.hid hky0
        clear hky0 hqo hnot hwa hos1 e0 e1 e2 e3 e4 e5
        go_wp2_with fail
        go_loopw [83] (fun i wr => ∃ j : Nat, j ≤ m ∧ i = .int .i64 j ∧ OrderAt opts j ∧ wr.cell? ⟨wo.heap.size, 3, none⟩ = some (.slice oa m oc) ∧ All wd wr) (fun i _ => m - (intOf i).toNat)
        case atStart => exact ⟨0, Nat.zero_le _, rfl, OrderAt.zero _, hcl, Kept.refl _ _⟩
        case round =>
          obtain ⟨j, hj, rfl, hoat, hcl2, hwi⟩ := hrel
          obtain ⟨wi, rfl⟩ : ∃ wi : World, wi = wr := ⟨_, rfl⟩
          have HO := Lib.hid hoat
          clear hoat hcl
          by_cases hjl : j < m
          · have hsk := hosd.keep RStr.ok hwi
            obtain ⟨b5, off5, y, ha5, -, d0, hzy, hy, -, hty⟩ := hsk.atStr hjl
            subst ha5
            have HY := Lib.hid hy
            have HSL := Lib.hid (fun (wx : World) (h : All wi wx) => (hsk.keep RStr.ok h).take (k := j) (by omega))
            clear hy hty hosd hsk
            cases hky : isKeyB y with
            | false =>
              have hbad := Lib.hid (HA.out.bad Hq.out HK.out (Int.not_lt.2 HN.out) (HQO.out.trans (HO.out.name HY.out hky)) (by decide))
              go_wp2_with fail
              refine (key_any _ _ (by omega)).mono ?_
              rintro e w4 ⟨rfl, hw4⟩
              rw [hky]
              go_wp2_with fail
              go_ret
              exact ⟨ret_int' (by rw [hfin.out]; exact hbad.out.symm), hwc.trans (hwi.trans hw4)⟩
            | true =>
              have HKY := Lib.hid hky
              cases hme : memB y (opts.take j) with
              | true =>
                have hbad := Lib.hid (HA.out.bad Hq.out HK.out (Int.not_lt.2 HN.out) (HQO.out.trans (HO.out.twice HY.out HKY.out hme)) (by decide))
                go_wp2_with fail
                refine (key_any _ _ (by omega)).mono ?_
                rintro e w4 ⟨rfl, hw4⟩
                rw [hky]
                have hcl3 := hw4.cell hcl2 trivial
                have hwj := hwi.trans hw4
                go_wp2_with fail
                refine (contains_any _ j oc (opts.take j) y _ (HSL.out _ hw4) (by omega)).mono ?_
                rintro e w5 ⟨rfl, hh⟩
                subst hh
                rw [hme]
                go_wp2_with fail
                go_ret
                exact ⟨ret_int' (by rw [hfin.out]; exact hbad.out.symm), hwc.trans hwj⟩
              | false =>
                have HNX := Lib.hid (HO.out.next HY.out HKY.out hme)
                go_wp2_with fail
                refine (key_any _ _ (by omega)).mono ?_
                rintro e w4 ⟨rfl, hw4⟩
                rw [hky]
                have hcl3 := hw4.cell hcl2 trivial
                have hwj := hwi.trans hw4
                go_wp2_with fail
                refine (contains_any _ j oc (opts.take j) y _ (HSL.out _ hw4) (by omega)).mono ?_
                rintro e w5 ⟨rfl, hh⟩
                subst hh
                rw [hme]
                go_wp2_with fail
                go_roundw
                case rel => exact ⟨j + 1, by omega, by go_num, HNX.out, hcl3, hwj⟩
                case measure => simp [intOf]; omega
          · have hdj : decide ((j : Int) < (m : Int)) = false := by simp; omega
            have HNX := Lib.hid (HA.out.next Hq.out HK.out (Int.not_lt.2 HN.out) (HQO.out.trans (HO.out.ok (by have := HM.out; omega))))
            have hwe := hwc.trans hwi
            clear hosd hwc hwi hcl2
            go_wp2_with fail
            go_roundw
            case rel => exact ⟨k + 1, by omega, by go_num, HNX.out, hwe⟩
            case measure => simp [intOf]; omega
    · have hdk : decide ((k : Int) < (len : Int)) = false := by simp; omega
      go_wp2_with fail
      go_ret
      exact ⟨ret_int' (by rw [hfin.out]; exact (HA.out.ok (by have := Hlen.out; omega)).symm), hwr⟩

end Go.Proofs.YtjbaijgdkkccbaaGreatDoor
