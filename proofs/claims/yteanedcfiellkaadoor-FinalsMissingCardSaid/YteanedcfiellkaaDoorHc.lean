/- VerdictsFault answers verdF. -/
import Derived.Test.YteanedcfiellkaaDoorHa
import Derived.Test.YteanedcfiellkaaDoorGd
import Derived.Test.YteanedcfiellkaaDoorKb
namespace Go.Proofs.YteanedcfiellkaaDoor
open Go.RowKit

def isDecP (p : ByteArray) (d : Dec3) : Bool := decide (d.paper = p)
theorem any_isDecP (p : ByteArray) (ds : List Dec3) : ds.any (isDecP p) = memB p (papersD ds) := by
  unfold memB papersD
  rw [List.any_map]
  rfl
/-- Function value g with what it has captured answers p of a decision. -/
def AnswersD (P : Program) (g : FuncId) (caps : Array Value) (w : World) (p : Dec3 → Bool) : Prop :=
  ∀ (y : Dec3) (wx : World), All w wx → Calls P g (#[.agg #[.string y.paper, .bool y.yes, .int .i64 y.rank]] ++ caps) wx fun e w' => e = .returned (.bool (p y)) ∧ All wx w'

set_option maxHeartbeats 800000 in
theorem indexDec_any (g : FuncId) (caps : Array Value) (eg : ∀ args w, (callFunc g args).run Tryd.prog w = .ok (.enter g args) w) (p : Dec3 → Bool)
    (a : Option Addr) (len cap : Nat) (ss : List Dec3) (w : World) (hs : Sl RDec 3 (fun _ => True) w a len ss) (hl : len ≤ 1000000) (hp : AnswersD Tryd.prog g caps w p) :
    Calls Tryd.prog 155 #[.slice a len cap, .func (.func g) #[] caps] w fun e w' => e = .returned (.int .i64 (findG p 0 ss)) ∧ All w w' := by
  have hlen := hs.len
  have HP := Lib.hid hp
  clear hp
  go_enter Tryd.func155, Tryd.ntmps155
  go_wp2
  go_loopw [5, 8] (fun _ i wr => ∃ k : Nat, k ≤ len ∧ i = .int .i64 k ∧ (ss.take k).any p = false ∧ All w wr) (fun _ i _ => len - (intOf i).toNat)
  case atStart => exact ⟨0, Nat.zero_le _, rfl, by simp, Kept.refl _ _⟩
  case round =>
    obtain ⟨k, hk, rfl, hnot, hall⟩ := hrel
    by_cases hlt : k < len
    · obtain ⟨b, off, y, ha, -, hc0, hc1, hc2, -, hy, hsplit, htake⟩ := (hs.keep RDec.ok hall).atDec hlt
      have hltake : (ss.take k).length = k := by simp; omega
      have Hsplit := Lib.hid hsplit
      have Htake := Lib.hid htake
      have Hl := Lib.hid hltake
      have Hnot := Lib.hid hnot
      clear hsplit htake hltake hlen hnot hy
      subst ha
      clear hs
      cases hpy : p y with
      | true =>
        have hfin : findG p 0 ss = k := by rw [Hsplit.out, findG_append Hnot.out, Hl.out, findG, if_pos hpy]; simp
        have Hfin := Lib.hid hfin
        clear hfin
        go_wp2_with fail
        refine (HP.out y _ hall).mono ?_
        rintro e w' ⟨rfl, hw⟩
        rw [hpy]
        go_wp2_with fail
        go_ret
        exact ⟨ret_int' Hfin.out.symm, hall.trans hw⟩
      | false =>
        go_wp2_with fail
        refine (HP.out y _ hall).mono ?_
        rintro e w' ⟨rfl, hw⟩
        rw [hpy]
        go_wp2_with fail
        go_roundw
        case rel => exact ⟨k + 1, by omega, by go_num, by rw [Htake.out, List.any_append, Hnot.out]; simp [hpy], hall.trans hw⟩
        case measure => simp [intOf]; omega
    · have hd : decide ((k : Int) < (len : Int)) = false := by simp; omega
      have hfin : findG p 0 ss = -1 := findG_neg (by rw [List.take_of_length_le (by omega)] at hnot; exact hnot)
      have Hfin := Lib.hid hfin
      clear hfin
      go_wp2
      go_ret
      exact ⟨ret_int' Hfin.out.symm, hall⟩

theorem verdicts1_any (kp : Nat) (key : ByteArray) (y : Dec3) (w : World) (ck : w.cell? ⟨kp, 0, none⟩ = some (.string key)) :
    Calls Tryd.prog 108 #[.agg #[.string y.paper, .bool y.yes, .int .i64 y.rank], .pointer (some ⟨kp, 0, none⟩)] w fun e w' => e = .returned (.bool (isDecP key y)) ∧ All w w' := by
  have hkp := lt_of_cell ck
  dsimp only at hkp
  by_cases h : y.paper = key
  · have hb : isDecP key y = true := by simp [isDecP, h]
    have e1 : (y.paper.toList == key.toList) = true := by simp [h]
    rw [hb]
    clear hb h
    go_enter Tryd.func108, Tryd.ntmps108
    go_wp2_with fail
    go_ret
    exact ⟨rfl, Kept.alloc _ _ _⟩
  · have hb : isDecP key y = false := by simp [isDecP, h]
    have e1 : (y.paper.toList == key.toList) = false := by simp; exact fun e => h (bytes_ext e)
    rw [hb]
    clear hb h
    go_enter Tryd.func108, Tryd.ntmps108
    go_wp2_with fail
    go_ret
    exact ⟨rfl, Kept.alloc _ _ _⟩


theorem containsDec_any (g : FuncId) (caps : Array Value) (eg : ∀ args w, (callFunc g args).run Tryd.prog w = .ok (.enter g args) w) (p : Dec3 → Bool)
    (a : Option Addr) (len cap : Nat) (ss : List Dec3) (w : World) (hs : Sl RDec 3 (fun _ => True) w a len ss) (hl : len ≤ 1000000) (hp : AnswersD Tryd.prog g caps w p) :
    Calls Tryd.prog 107 #[.slice a len cap, .func (.func g) #[] caps] w fun e w' => e = .returned (.bool (ss.any p)) ∧ All w w' := by
  have hI := Lib.hid (indexDec_any g caps eg p a len cap ss w hs hl hp)
  clear hp
  cases hx : ss.any p with
  | true =>
    have h0 := findG_nonneg (k := 0) hx
    clear hx
    go_enter Tryd.func107, Tryd.ntmps107
    go_wp2_with fail
    refine hI.out.mono ?_
    rintro e w' ⟨rfl, hw⟩
    go_wp2
    go_ret
    exact ⟨rfl, hw⟩
  | false =>
    have h0 := findG_neg (k := 0) hx
    clear hx
    go_enter Tryd.func107, Tryd.ntmps107
    go_wp2_with fail
    refine hI.out.mono ?_
    rintro e w' ⟨rfl, hw⟩
    rw [h0]
    go_wp2
    go_ret
    exact ⟨rfl, hw⟩


set_option maxRecDepth 100000 in
set_option maxHeartbeats 3200000 in
theorem verdictsFault_any (a : Option Addr) (len cap : Nat) (ds : List Dec3) (w : World) (hs : Sl RDec 3 (fun _ => True) w a len ds) (hl : len ≤ 1000) (hcap : len ≤ cap) :
    Calls Tryd.prog 56 #[.slice a len cap] w fun e w' => e = .returned (.int .i64 (verdF [] ds)) ∧ All w w' := by
  have Hlen := Lib.hid hs.len
  have hmf := hmfC
  have eg : ∀ args w, (callFunc 108 args).run Tryd.prog w = .ok (.enter 108 args) w := enters_of Tryd.func108 (by kernel_rfl) rfl
  have EG := Lib.hid eg
  clear eg
  go_enter Tryd.func56, Tryd.ntmps56
  go_wp2_with fail
  go_loopw [7] (fun i wr => ∃ j : Nat, j ≤ len ∧ i = .int .i64 j ∧ VerdAt ds j ∧ All w wr) (fun i _ => len - (intOf i).toNat)
  case atStart => exact ⟨0, Nat.zero_le _, rfl, VerdAt.zero _, Kept.refl _ _⟩
  case round =>
    obtain ⟨j, hj, rfl, hat, hall⟩ := hrel
    obtain ⟨wo, rfl⟩ : ∃ wo : World, wo = wr := ⟨_, rfl⟩
    by_cases hlt : j < len
    · obtain ⟨b, off, y, ha, -, c0, c1, c2, hz0, hy, -, hty⟩ := (hs.keep RDec.ok hall).atDec hlt
      have htk : Sl RDec 3 (fun _ => True) wo a j (ds.take j) := (hs.keep RDec.ok hall).take (by omega)
      subst ha
      have HA := Lib.hid hat
      have Hy := Lib.hid hy
      have HT := Lib.hid hty
      clear hat hy hty hs
      have hwa := hall.then_alloc (.cells #[.string y.paper, .bool y.yes, .int .i64 y.rank] 150)
      have hblk := heap_at wo (.cells #[.string y.paper, .bool y.yes, .int .i64 y.rank] 150) _ rfl
      have htk' := htk.keep RDec.ok (Kept.alloc (fun _ => True) wo (.cells #[.string y.paper, .bool y.yes, .int .i64 y.rank] 150))
      have e0 := cell_at (i := 0) hblk rfl
      have HC := Lib.hid (fun (wq : World) (hq : All _ wq) => containsDec_any 108 #[.pointer (some ⟨wo.heap.size, 0, none⟩)] EG.out (isDecP y.paper) _ j cap (ds.take j) wq (htk'.keep RDec.ok hq) (by omega) (fun z wx hwx => verdicts1_any wo.heap.size y.paper z wx (hwx.cell (hq.cell e0 trivial) trivial)))
      clear htk htk' hblk
      cases h1 : isKeyB y.paper with
      | false =>
        have hfin := Lib.hid (HA.out.name Hy.out h1)
        go_wp2_with fail
        refine (key_any y.paper _ (by omega)).mono ?_
        rintro e w' ⟨rfl, hkw⟩
        rw [h1]
        go_wp2_with fail
        go_ret
        exact ⟨ret_int' hfin.out.symm, hwa.trans hkw⟩
      | true =>
        cases h2 : memB y.paper (papersD (ds.take j)) with
        | true =>
          have hfin := Lib.hid (HA.out.twice Hy.out h1 h2)
          have hjc1 : (0 : Int) ≤ (j : Int) := by omega
          have hjc2 : (j : Int) ≤ (cap : Int) := by omega
          have HC2 := Lib.hid (any_isDecP y.paper (ds.take j))
          rw [h2] at HC2
          clear h2
          go_wp2_with fail
          refine (key_any y.paper _ (by omega)).mono ?_
          rintro e w2 ⟨rfl, hkw⟩
          rw [h1]
          go_wp2_with fail
          refine (HC.out _ hkw).mono ?_
          rintro e w3 ⟨rfl, hq3⟩
          rw [HC2.out]
          have hw3 : All w w3 := (hwa.trans hkw).trans hq3
          clear hwa hkw hq3
          go_wp2_with fail
          go_ret
          exact ⟨ret_int' hfin.out.symm, hw3⟩
        | false =>
          have hnx := Lib.hid (HA.out.next Hy.out HT.out h1 h2)
          have hjc1 : (0 : Int) ≤ (j : Int) := by omega
          have hjc2 : (j : Int) ≤ (cap : Int) := by omega
          have HC2 := Lib.hid (any_isDecP y.paper (ds.take j))
          rw [h2] at HC2
          clear h2
          go_wp2_with fail
          refine (key_any y.paper _ (by omega)).mono ?_
          rintro e w2 ⟨rfl, hkw⟩
          rw [h1]
          go_wp2_with fail
          refine (HC.out _ hkw).mono ?_
          rintro e w3 ⟨rfl, hq3⟩
          rw [HC2.out]
          have hw3 : All w w3 := (hwa.trans hkw).trans hq3
          clear hwa hkw hq3
          go_wp2_with fail
          go_roundw
          case rel => exact ⟨j + 1, by omega, by go_num, hnx.out, hw3⟩
          case measure => simp [intOf]; omega
    · have hd : decide ((j : Int) < (len : Int)) = false := by simp; omega
      have hfin := Lib.hid (hat.ok (by have := Hlen.out; omega))
      clear hat
      go_wp2_with fail
      go_ret
      exact ⟨ret_int' hfin.out.symm, hall⟩
end Go.Proofs.YteanedcfiellkaaDoor
