/- Where a person is, by the reference; closures that ask it. -/
import Derived.Test.YtgobnlgmbplggaaGreatDoorU3
namespace Go.Proofs.YtgobnlgmbplggaaGreatDoor
open Go.RowKit

def perIx (l : List Per) (s : ByteArray) : Int := findA (fun p : Per => decide (p.key = s)) 0 l
theorem perIx_cases (l : List Per) (s : ByteArray) : (hasK l s = false ∧ perIx l s = -1) ∨ (∃ (k : Nat) (x : Per), k < l.length ∧ l[k]? = some x ∧ hasK l s = true ∧ perAt l s = some x ∧ perIx l s = (k : Int)) := by
  rcases findA_cases (fun p : Per => decide (p.key = s)) l 0 with ⟨h1, h2⟩ | ⟨k, x, h0, h1, h2, h3⟩
  · exact Or.inl ⟨by rw [hasK, perAt, h1]; rfl, h2⟩
  · exact Or.inr ⟨k, x, h0, h1, by rw [hasK, perAt, h2]; rfl, by rw [perAt, h2], by rw [perIx, h3, Nat.zero_add]⟩
theorem perIx_neg (l : List Per) (s : ByteArray) : decide (perIx l s < 0) = !hasK l s := by
  rcases perIx_cases l s with ⟨h1, h2⟩ | ⟨k, x, -, -, h1, -, h2⟩
  · rw [h1, h2]; rfl
  · rw [h1, h2]; simp
/-- A function value answers p at each person, whatever its rows are; it leaves what was there as it was. -/
def AnswersPer (g : FuncId) (caps : Array Value) (w : World) (p : Per → Bool) (ys : List Per) : Prop :=
  ∀ y ∈ ys, ∀ (a1 : Option Addr) (c1 : Nat) (a2 : Option Addr) (c2 : Nat) (a3 : Option Addr) (c3 : Nat) (a4 : Option Addr) (c4 : Nat) (wx : World), All w wx → Calls Tryz.prog g (#[.agg (cellsPer y a1 c1 a2 c2 a3 c3 a4 c4).toArray] ++ caps) wx fun e w' => e = .returned (.bool (p y)) ∧ All wx w'
set_option maxHeartbeats 1600000 in
theorem indexFuncPer_any (g : FuncId) (caps : Array Value) (eg : ∀ args w, (callFunc g args).run Tryz.prog w = .ok (.enter g args) w) (p : Per → Bool)
    (a : Option Addr) (len cap : Nat) (ss : List Per) (w : World) (hs : Sl RPer 5 (fun _ => True) w a len ss) (hl : len ≤ 1000000) (hp : AnswersPer g caps w p ss) :
    Calls Tryz.prog 145 #[.slice a len cap, .func (.func g) #[] caps] w fun e w' => e = .returned (.int .i64 (findA p 0 ss)) ∧ All w w' := by
  have Hlen := Lib.hid hs.len
  have HP := Lib.hid hp
  have HS := Lib.hid hs
  clear hp hs
  go_enter Tryz.func145, Tryz.ntmps145
  go_wp2_with fail
  go_loopw [5, 8] (fun _ i wr => ∃ k : Nat, k ≤ len ∧ i = .int .i64 k ∧ (ss.take k).any p = false ∧ All w wr) (fun _ i _ => len - (intOf i).toNat)
  case atStart => exact ⟨0, Nat.zero_le _, rfl, by simp, Kept.refl _ _⟩
  case round =>
    obtain ⟨k, hk, rfl, hnot, hall⟩ := hrel
    have Hnot := Lib.hid hnot
    clear hnot
    by_cases hlt : k < len
    · obtain ⟨b, off, y, a1, c1, a2, c2, a3, c3, a4, c4, ha, -, d0, d1, d2, d3, d4, -, hy, -⟩ := (HS.out.keep RPer.ok hall).atPer hlt
      have Hy := Lib.hid hy
      have hmem := List.mem_of_getElem? hy
      clear hy
      subst ha
      cases hpy : p y with
      | true =>
        have Hfin := Lib.hid (findA_at Hnot.out Hy.out hpy)
        go_wp2_with fail
        refine (HP.out y hmem a1 c1 a2 c2 a3 c3 a4 c4 _ hall).mono ?_
        rintro e w' ⟨rfl, hw⟩
        rw [hpy]
        go_wp2_with fail
        go_ret
        exact ⟨ret_int' Hfin.out.symm, hall.trans hw⟩
      | false =>
        have Hn := Lib.hid (anyA_next Hnot.out Hy.out hpy)
        go_wp2_with fail
        refine (HP.out y hmem a1 c1 a2 c2 a3 c3 a4 c4 _ hall).mono ?_
        rintro e w' ⟨rfl, hw⟩
        rw [hpy]
        go_wp2_with fail
        go_roundw
        case rel => exact ⟨k + 1, by omega, by go_num, Hn.out, hall.trans hw⟩
        case measure => simp [intOf]; omega
    · have hd : decide ((k : Int) < (len : Int)) = false := by simp; omega
      have Hfin := Lib.hid (findA_end Hnot.out (by have := Hlen.out; omega))
      go_wp2_with fail
      go_ret
      exact ⟨ret_int' Hfin.out.symm, hall⟩
theorem personAt1_any (p : Nat) (s : ByteArray) (y : Per) (a1 : Option Addr) (c1 : Nat) (a2 : Option Addr) (c2 : Nat) (a3 : Option Addr) (c3 : Nat) (a4 : Option Addr) (c4 : Nat) (w : World) (h : w.cell? ⟨p, 0, none⟩ = some (.string s)) :
    Calls Tryz.prog 146 #[.agg (cellsPer y a1 c1 a2 c2 a3 c3 a4 c4).toArray, .pointer (some ⟨p, 0, none⟩)] w fun e w' => e = .returned (.bool (decide (y.key = s))) ∧ All w w' := by
  have hlt := lt_of_cell h
  have hd : (y.key.toList == s.toList) = decide (y.key = s) := by
    by_cases he : y.key = s
    · rw [he, decide_eq_true rfl]; simp
    · rw [decide_eq_false he, beq_eq_false_iff_ne]; exact fun e => he (bytes_ext e)
  obtain ⟨z, hz⟩ : ∃ z, z = decide (y.key = s) := ⟨_, rfl⟩
  rw [← hz] at hd ⊢
  clear hz
  go_enter Tryz.func146, Tryz.ntmps146
  go_wp2_with fail
  go_ret
  exact ⟨rfl, Kept.alloc _ _ _⟩
set_option maxHeartbeats 1600000 in
theorem personAt_any (a0 : Option Addr) (l0 c0 : Nat) (a1 : Option Addr) (l1 c1 : Nat) (a2 : Option Addr) (l2 c2 : Nat) (a3 : Option Addr) (l3 c3 : Nat) (l : List Per) (s : ByteArray) (w : World) (hs : Sl RPer 5 (fun _ => True) w a1 l1 l) (hl : l1 ≤ 1000000) :
    Calls Tryz.prog 69 #[.agg #[.slice a0 l0 c0, .slice a1 l1 c1, .slice a2 l2 c2, .slice a3 l3 c3], .string s] w fun e w' => e = .returned (.int .i64 (perIx l s)) ∧ All w w' := by
  have hk1 : All w ((w.alloc (.cells #[.slice a0 l0 c0, .slice a1 l1 c1, .slice a2 l2 c2, .slice a3 l3 c3] 31)).alloc (.cells #[.string s] 9)) := (Kept.alloc _ _ _).then_alloc _
  have ha := heap_at (w.alloc (.cells #[.slice a0 l0 c0, .slice a1 l1 c1, .slice a2 l2 c2, .slice a3 l3 c3] 31)) (.cells #[.string s] 9) _ rfl
  have eg : ∀ args w, (callFunc 146 args).run Tryz.prog w = .ok (.enter 146 args) w := enters_of Tryz.func146 (by kernel_rfl) rfl
  have hb0 : ((w.alloc (.cells #[.slice a0 l0 c0, .slice a1 l1 c1, .slice a2 l2 c2, .slice a3 l3 c3] 31)).alloc (.cells #[.string s] 9)).heap[w.heap.size]? = some (.cells #[.slice a0 l0 c0, .slice a1 l1 c1, .slice a2 l2 c2, .slice a3 l3 c3] 31) := heap_old _ (heap_at w (.cells #[.slice a0 l0 c0, .slice a1 l1 c1, .slice a2 l2 c2, .slice a3 l3 c3] 31) _ rfl)
  have hsz : (w.alloc (.cells #[.slice a0 l0 c0, .slice a1 l1 c1, .slice a2 l2 c2, .slice a3 l3 c3] 31)).heap.size = w.heap.size + 1 := by simp
  rw [hsz] at ha
  obtain ⟨w2, hw2⟩ : ∃ z, z = (w.alloc (.cells #[.slice a0 l0 c0, .slice a1 l1 c1, .slice a2 l2 c2, .slice a3 l3 c3] 31)).alloc (.cells #[.string s] 9) := ⟨_, rfl⟩
  obtain ⟨B, hB⟩ : ∃ z, z = w.heap.size := ⟨_, rfl⟩
  rw [← hw2] at hk1 ha hb0
  rw [← hB] at ha hb0
  have HF := Lib.hid (indexFuncPer_any 146 #[.pointer (some ⟨B + 1, 0, none⟩)] eg (fun p : Per => decide (p.key = s)) a1 l1 c1 l w2 (hs.keep RPer.ok hk1) hl (fun y _ b1 d1 b2 d2 b3 d3 b4 d4 wx hwx => personAt1_any _ s y b1 d1 b2 d2 b3 d3 b4 d4 wx (hwx.cell (cell_at ha rfl) trivial)))
  have hmf' := hmfC
  have HW2 := Lib.hid hw2
  have HB := Lib.hid hB
  have e1 := cell_at (i := 1) hb0 rfl
  clear eg ha hs hw2 hB hb0 hsz
  go_enter Tryz.func69, Tryz.ntmps69
  go_upto_region 1 with fail
  simp only [← HB.out, ← HW2.out]
  go_wp2_with fail
  refine HF.out.mono ?_
  rintro e w3 ⟨rfl, hw3⟩
  go_wp2_with fail
  go_ret
  exact ⟨rfl, hk1.trans hw3⟩
theorem worksFault1_any (a0 : Option Addr) (l0 c0 : Nat) (a1 : Option Addr) (l1 c1 : Nat) (a2 : Option Addr) (l2 c2 : Nat) (a3 : Option Addr) (l3 c3 : Nat) (b : Nat) (l : List Per) (s : ByteArray) (w : World) (hb : w.heap[b]? = some (.cells #[.slice a0 l0 c0, .slice a1 l1 c1, .slice a2 l2 c2, .slice a3 l3 c3] 31)) (hs : Sl RPer 5 (fun _ => True) w a1 l1 l) (hl : l1 ≤ 1000000) :
    Calls Tryz.prog 147 #[.string s, .pointer (some ⟨b, 0, none⟩)] w fun e w' => e = .returned (.bool (!hasK l s)) ∧ All w w' := by
  have HP := Lib.hid (personAt_any a0 l0 c0 a1 l1 c1 a2 l2 c2 a3 l3 c3 l s w hs hl)
  have e0 := cell_at (i := 0) hb rfl
  have e1 := cell_at (i := 1) hb rfl
  have e2 := cell_at (i := 2) hb rfl
  have e3 := cell_at (i := 3) hb rfl
  have HN := Lib.hid (perIx_neg l s)
  rw [← HN.out]
  clear hb hs
  go_enter Tryz.func147, Tryz.ntmps147
  go_wp2_with fail
  refine HP.out.mono ?_
  rintro e w3 ⟨rfl, hw3⟩
  go_wp2_with fail
  go_ret
  exact ⟨rfl, hw3⟩
theorem worksFault2_any (a0 : Option Addr) (l0 c0 : Nat) (a1 : Option Addr) (l1 c1 : Nat) (a2 : Option Addr) (l2 c2 : Nat) (a3 : Option Addr) (l3 c3 : Nat) (b c : Nat) (l : List Per) (s : ByteArray) (w : World) (hc : w.cell? ⟨c, 0, none⟩ = some (.func (.func 147) #[] #[.pointer (some ⟨b, 0, none⟩)])) (hb : w.heap[b]? = some (.cells #[.slice a0 l0 c0, .slice a1 l1 c1, .slice a2 l2 c2, .slice a3 l3 c3] 31)) (hs : Sl RPer 5 (fun _ => True) w a1 l1 l) (hl : l1 ≤ 1000000) :
    Calls Tryz.prog 148 #[.string s, .pointer (some ⟨c, 0, none⟩)] w fun e w' => e = .returned (.bool (hasK l s)) ∧ All w w' := by
  have HP := Lib.hid (worksFault1_any a0 l0 c0 a1 l1 c1 a2 l2 c2 a3 l3 c3 b l s w hb hs hl)
  have eg : ∀ args w, (callFunc 147 args).run Tryz.prog w = .ok (.enter 147 args) w := enters_of Tryz.func147 (by kernel_rfl) rfl
  obtain ⟨z, hz⟩ : ∃ z, z = hasK l s := ⟨_, rfl⟩
  rw [← hz] at HP ⊢
  have hlt := lt_of_cell hc
  clear hb hs hz
  go_enter Tryz.func148, Tryz.ntmps148
  go_wp2_with fail
  refine HP.out.mono ?_
  rintro e w3 ⟨rfl, hw3⟩
  go_wp2_with fail
  go_ret
  exact ⟨by first | rfl | simp, hw3⟩
end Go.Proofs.YtgobnlgmbplggaaGreatDoor

/- worksFault of the reference. -/
namespace Go.Proofs.YtgobnlgmbplggaaGreatDoor
open Go.RowKit

noncomputable def wbF (l : List Per) (ws : List Wrk) (bs : List Bnd) : Int := if worksF l ws ≠ 0 then worksF l ws else bondsF l bs
theorem wbF_works {l : List Per} {ws : List Wrk} {bs : List Bnd} {z : Int} (h : worksF l ws = z) (hz : z ≠ 0) : wbF l ws bs = z := by rw [wbF, h, if_pos hz]
theorem wbF_bonds {l : List Per} {ws : List Wrk} {bs : List Bnd} (h : worksF l ws = 0) : wbF l ws bs = bondsF l bs := by rw [wbF, h, if_neg (by decide)]
section
variable {ps : List Per} {l : List Bnd} {x : Bnd} {p : Option Bnd}
theorem bndE_a' (h : hasK ps x.a = false) : bndE ps p x = 8 := by rw [bndE, if_pos (Or.inl h)]
theorem bndE_b' (h : hasK ps x.b = false) : bndE ps p x = 8 := by rw [bndE, if_pos (Or.inr h)]
theorem bndE_le' (h : hasK ps x.a = true) (h1 : hasK ps x.b = true) (h2 : leB x.b x.a = true) : bndE ps p x = 7 := by
  rw [bndE, if_neg (by rw [h, h1]; decide), if_pos (Or.inl h2)]
theorem bndE_or' (h : hasK ps x.a = true) (h1 : hasK ps x.b = true) (h3 : notOver cfB p x = true) : bndE ps p x = 7 := by
  rw [bndE, if_neg (by rw [h, h1]; decide), if_pos (Or.inr h3)]
theorem bndE_ok' (h : hasK ps x.a = true) (h1 : hasK ps x.b = true) (h2 : leB x.b x.a = false) (h3 : notOver cfB p x = false) : bndE ps p x = 0 := by
  rw [bndE, if_neg (by rw [h, h1]; decide), if_neg (by rw [h2, h3]; decide)]
theorem bondsF_large' (h : 1000 < l.length) : bondsF ps l = 2 := by rw [bondsF, if_pos h]
theorem bondsF_scan' (h : ¬ 1000 < l.length) : bondsF ps l = scanF (bndE ps) none l := by rw [bondsF, if_neg h]
end
set_option maxRecDepth 100000 in
set_option maxHeartbeats 12800000 in
theorem worksFaultR_any (a0 : Option Addr) (l0 c0 : Nat) (a1 : Option Addr) (l1 c1 : Nat) (a2 : Option Addr) (l2 c2 : Nat) (a3 : Option Addr) (l3 c3 : Nat) (ps : List Per) (l : List Wrk) (m : List Bnd) (w : World) (hs : Sl RPer 5 (fun _ => True) w a1 l1 ps) (hl1 : l1 ≤ 100000)
    (hw : Sl RWrk 2 (fun _ => True) w a2 l2 l) (hl2 : l2 ≤ 100000) (hb : Sl RBnd 2 (fun _ => True) w a3 l3 m) (hl3 : l3 ≤ 100000) :
    Calls Tryz.prog 70 #[.agg #[.slice a0 l0 c0, .slice a1 l1 c1, .slice a2 l2 c2, .slice a3 l3 c3]] w fun e w' => e = .returned (.int .i64 (wbF ps l m)) ∧ All w w' := by
  have HLW := Lib.hid hw.len
  have HLB := Lib.hid hb.len
  have hb0 := heap_at w (.cells #[.slice a0 l0 c0, .slice a1 l1 c1, .slice a2 l2 c2, .slice a3 l3 c3] 31) _ rfl
  obtain ⟨wb, hwb⟩ : ∃ z, z = w.heap.size := ⟨_, rfl⟩
  have HWB := Lib.hid hwb
  rw [← hwb] at hb0
  have HK1 := Lib.hid (show All w (w.alloc (.cells #[.slice a0 l0 c0, .slice a1 l1 c1, .slice a2 l2 c2, .slice a3 l3 c3] 31)) from Kept.alloc _ _ _)
  obtain ⟨w1, hw1⟩ : ∃ z, z = w.alloc (.cells #[.slice a0 l0 c0, .slice a1 l1 c1, .slice a2 l2 c2, .slice a3 l3 c3] 31) := ⟨_, rfl⟩
  have HW1 := Lib.hid hw1
  rw [← hw1] at hb0 HK1
  have hn := heap_at w1 (.cells #[.nilFunc] 118) _ rfl
  have q0 := cell_at (i := 0) hn rfl
  have q1 := frozen_at (i := 0) hn
  have hst : (store ⟨w1.heap.size, 0, none⟩ (.func (.func 147) #[] #[.pointer (some ⟨wb, 0, none⟩)])).run Tryz.prog (w1.alloc (.cells #[.nilFunc] 118)) = .ok () (w1.alloc (.cells #[.func (.func 147) #[] #[.pointer (some ⟨wb, 0, none⟩)]] 118)) := by
    rw [run_store _ _ _ _ _ rfl, q0]
    simp [q1, World.setCell_alloc_at]
  obtain ⟨fb, hfb⟩ : ∃ z, z = w1.heap.size := ⟨_, rfl⟩
  have HFB := Lib.hid hfb
  have hcf := heap_at w1 (.cells #[.func (.func 147) #[] #[.pointer (some ⟨wb, 0, none⟩)]] 118) fb hfb
  have hk12 : All w1 (w1.alloc (.cells #[.func (.func 147) #[] #[.pointer (some ⟨wb, 0, none⟩)]] 118)) := Kept.alloc _ _ _
  obtain ⟨w2, hw2⟩ : ∃ z, z = w1.alloc (.cells #[.func (.func 147) #[] #[.pointer (some ⟨wb, 0, none⟩)]] 118) := ⟨_, rfl⟩
  have HW2 := Lib.hid hw2
  rw [← hw2] at hcf hk12
  have HK0 := Lib.hid (HK1.out.trans hk12)
  have hb2 := hk12.heap hb0 trivial
  have HC := Lib.hid (fun (wx : World) (k : All w2 wx) => k.heap hb2 trivial)
  have HCF := Lib.hid (fun (wx : World) (k : All w2 wx) => k.cell (cell_at (i := 0) hcf rfl) trivial)
  have eg : ∀ args w, (callFunc 148 args).run Tryz.prog w = .ok (.enter 148 args) w := enters_of Tryz.func148 (by kernel_rfl) rfl
  have eg1 : ∀ args w, (callFunc 147 args).run Tryz.prog w = .ok (.enter 147 args) w := enters_of Tryz.func147 (by kernel_rfl) rfl
  have HNO := Lib.hid (fun (s : ByteArray) (wx : World) (k : All w2 wx) => worksFault1_any a0 l0 c0 a1 l1 c1 a2 l2 c2 a3 l3 c3 wb ps s wx (HC.out _ k) (hs.keep RPer.ok (HK0.out.trans k)) (by omega))
  have HAN := Lib.hid (fun (ys : List ByteArray) (wx : World) (k : All w2 wx) => (show AnswersG Tryz.prog 148 #[.pointer (some ⟨fb, 0, none⟩)] (fun _ => True) wx (fun y : ByteArray => Value.string y) (hasK ps) ys from by
    intro y hy wz hz
    exact worksFault2_any a0 l0 c0 a1 l1 c1 a2 l2 c2 a3 l3 c3 wb fb ps y wz (HCF.out _ (k.trans hz)) (HC.out _ (k.trans hz)) (hs.keep RPer.ok (HK0.out.trans (k.trans hz))) (by omega)))
  have HEG := Lib.hid eg
  have HSW := Lib.hid (fun (wx : World) (k : All w2 wx) => hw.keep RWrk.ok (HK0.out.trans k))
  have HSB := Lib.hid (fun (wx : World) (k : All w2 wx) => hb.keep RBnd.ok (HK0.out.trans k))
  have hall : All w2 w2 := Kept.refl _ _
  have hmf' := hmfC
  clear hs hw hb hwb hw1 hb0 hk12 hw2 hb2 hcf hn q0 q1 hfb eg
  go_enter Tryz.func70, Tryz.ntmps70
  go_upto_region 1 with fail
  simp only [← HWB.out, ← HW1.out]
  go_upto_region 2 with fail
  clear hst
  simp only [← HFB.out, ← HW2.out]
  have i2 := cell_at (i := 2) (HC.out _ hall) rfl
  have i3 := cell_at (i := 3) (HC.out _ hall) rfl
  by_cases hbig : 1000 < l2
  · have hd0 : decide ((1000 : Int) < (l2 : Int)) = true := by simp; omega
    have HF := Lib.hid (wbF_works (bs := m) (worksF_large (ps := ps) (l := l) (by have := HLW.out; omega)) (by decide))
    go_wp2_with fail
    go_ret
    exact ⟨ret_int' HF.out.symm, (HK0.out.trans (by repeat (first | exact hall | refine Kept.then_drew ?_ | refine Kept.then_drewN ?_ _ | refine Kept.then_alloc ?_ _)))⟩
  have hd0 : decide ((1000 : Int) < (l2 : Int)) = false := by simp; omega
  have HSC := Lib.hid (worksF_scan (ps := ps) (l := l) (by have := HLW.out; omega))
  have HFW := Lib.hid (show ∀ z, z ≠ 0 → scanF (wrkE ps) none l = z → wbF ps l m = z from fun z hz h => wbF_works (by rw [HSC.out]; exact h) hz)
  go_wp2_with fail
  go_loopw [17] (fun i wr => ∃ k : Nat, k ≤ l2 ∧ i = .int .i64 k ∧ ScanAt (wrkE ps) l k ∧ All w2 wr) (fun i _ => l2 - (intOf i).toNat)
  case atStart => exact ⟨0, Nat.zero_le _, rfl, ScanAt.zero _ _, (by repeat (first | exact hall | refine Kept.then_drew ?_ | refine Kept.then_drewN ?_ _ | refine Kept.then_alloc ?_ _))⟩
  case round =>
    clear hall i2 i3
    obtain ⟨k, hk, rfl, hat, hall⟩ := hrel
    obtain ⟨wo, rfl⟩ : ∃ wo : World, wo = wr := ⟨_, rfl⟩
    by_cases hlt : k < l2
    · obtain ⟨b, off, x, xa, xc, ha, -, c0', c1', hxi, hx, -⟩ := (HSW.out _ hall).atWrk hlt
      subst ha
      have HX := Lib.hid hx
      have HSM := Lib.hid hxi.small
      have hxl := hxi.small.2
      have HAT := Lib.hid hat
      have hb9 := heap_at wo (.cells #[.int .i64 x.day, .slice xa x.authors.length xc] 105) _ rfl
      obtain ⟨xb, hxb⟩ : ∃ z, z = wo.heap.size := ⟨_, rfl⟩
      have HXB := Lib.hid hxb
      rw [← hxb] at hb9
      have hall' : All w2 (wo.alloc (.cells #[.int .i64 x.day, .slice xa x.authors.length xc] 105)) := hall.then_alloc _
      have HXI := Lib.hid (hxi.keep (Kept.alloc (fun _ => True) wo (.cells #[.int .i64 x.day, .slice xa x.authors.length xc] 105)))
      clear hxb hall hxi hx hat
      go_upto_region 7 with fail
      simp only [← HXB.out]
      generalize wo.alloc (.cells #[.int .i64 x.day, .slice xa x.authors.length xc] 105) = w8 at *
      have hall := hall'
      have e0 := cell_at (i := 0) hb9 rfl
      have e1 := cell_at (i := 1) hb9 rfl
      clear hb9 c0' c1' hall'
      cases hday : decide (0 ≤ x.day ∧ x.day ≤ 4000) with
      | false =>
        have HF := Lib.hid (HFW.out 1 (by decide) (HAT.out.bad HX.out (wrkE_day hday) (by decide)))
        go_wp2_with fail
        refine (in_any x.day 0 4000 _).mono ?_
        rintro e w' ⟨rfl, hwd⟩
        subst hwd
        rw [hday]
        go_wp2_with fail
        go_ret
        exact ⟨ret_int' HF.out.symm, (HK0.out.trans (by repeat (first | exact hall | refine Kept.then_drew ?_ | refine Kept.then_drewN ?_ _ | refine Kept.then_alloc ?_ _)))⟩
      | true =>
      have HDAY := Lib.hid hday
      by_cases h2 : x.authors.length < 2
      · have d2 : decide ((x.authors.length : Int) < 2) = true := by simp; omega
        have HF := Lib.hid (HFW.out 3 (by decide) (HAT.out.bad HX.out (wrkE_few hday h2) (by decide)))
        go_wp2_with fail
        refine (in_any x.day 0 4000 _).mono ?_
        rintro e w' ⟨rfl, hwd⟩
        subst hwd
        rw [hday]
        clear hday
        go_wp2_with fail
        go_ret
        exact ⟨ret_int' HF.out.symm, (HK0.out.trans (by repeat (first | exact hall | refine Kept.then_drew ?_ | refine Kept.then_drewN ?_ _ | refine Kept.then_alloc ?_ _)))⟩
      by_cases h3 : 20 < x.authors.length
      · have d2 : decide ((x.authors.length : Int) < 2) = false := by simp; omega
        have d3 : decide ((20 : Int) < (x.authors.length : Int)) = true := by simp; omega
        have HF := Lib.hid (HFW.out 2 (by decide) (HAT.out.bad HX.out (wrkE_many hday h3) (by decide)))
        go_wp2_with fail
        refine (in_any x.day 0 4000 _).mono ?_
        rintro e w' ⟨rfl, hwd⟩
        subst hwd
        rw [hday]
        clear hday
        go_wp2_with fail
        go_ret
        exact ⟨ret_int' HF.out.symm, (HK0.out.trans (by repeat (first | exact hall | refine Kept.then_drew ?_ | refine Kept.then_drewN ?_ _ | refine Kept.then_alloc ?_ _)))⟩
      have d2 : decide ((x.authors.length : Int) < 2) = false := by simp; omega
      have d3 : decide ((20 : Int) < (x.authors.length : Int)) = false := by simp; omega
      have HB := Lib.hid (And.intro h2 h3)
      have HRI := Lib.hid (fun (wx : World) (kx : All w2 wx) (k8 : All w8 wx) => rising_any 148 #[.pointer (some ⟨fb, 0, none⟩)] HEG.out (hasK ps) 8 (by decide) (fun _ => True) xa _ xc x.authors wx ((HXI.out.keep k8).rauthors) (by omega) (HAN.out _ _ kx))
      rw [risE_aut] at HRI
      obtain ⟨za, hza⟩ : ∃ z, z = scanF (autE ps) none x.authors := ⟨_, rfl⟩
      have HZA := Lib.hid hza
      rw [← hza] at HRI
      clear hza
      go_wp2_with fail
      refine (in_any x.day 0 4000 _).mono ?_
      rintro e w' ⟨rfl, hwd⟩
      subst hwd
      rw [hday]
      clear hday
      go_wp2_with fail
      refine (HRI.out _ (by repeat (first | exact hall | refine Kept.then_drew ?_ | refine Kept.then_drewN ?_ _ | refine Kept.then_alloc ?_ _)) (by repeat (first | exact Kept.refl _ _ | refine Kept.then_drew ?_ | refine Kept.then_drewN ?_ _))).mono ?_
      rintro e w' ⟨rfl, hkw⟩
      have e0 := hkw.cell e0 trivial
      have e1 := hkw.cell e1 trivial
      have hall := Kept.trans (show All w2 _ from (by repeat (first | exact hall | refine Kept.then_drew ?_ | refine Kept.then_drewN ?_ _ | refine Kept.then_alloc ?_ _))) hkw
      have HXI2 := Lib.hid (HXI.out.keep hkw)
      clear hkw
      by_cases hz : za = 0
      case neg =>
        have hnz : (za != 0) = true := by simpa using hz
        have HF := Lib.hid (HFW.out za hz (HAT.out.bad HX.out (wrkE_aut HDAY.out h2 h3 HZA.out.symm hz) hz))
        clear hz
        go_wp2_with fail
        go_ret
        exact ⟨ret_int' HF.out.symm, (HK0.out.trans (by repeat (first | exact hall | refine Kept.then_drew ?_ | refine Kept.then_drewN ?_ _ | refine Kept.then_alloc ?_ _)))⟩
      subst hz
      have i2 := cell_at (i := 2) (HC.out _ hall) rfl
      rcases k with _ | k
      · have HN := Lib.hid (HAT.out.next HX.out (wrkE_ok HDAY.out h2 h3 HZA.out.symm rfl))
        clear h2 h3
        go_upto_region 16 with fail
        go_quiet (fail)
        go_wp2_with fail
        go_roundw
        case rel => exact ⟨1, by omega, rfl, HN.out, (by repeat (first | exact hall | refine Kept.then_drew ?_ | refine Kept.then_drewN ?_ _ | refine Kept.then_alloc ?_ _))⟩
        case measure => simp [intOf]; omega
      · have f1 : (0 : Int) ≤ (k : Int) := by omega
        have f2 : (k : Int) < (l2 : Int) := by omega
        have f3 : k < l2 := by omega
        have f4 : IntKind.i64.wrap (k : Int) = (k : Int) := IntWalk.i64_in _ (by omega)
        obtain ⟨b', off', y, ya, yc, ha', -, d0, d4, hyi, hy, -⟩ := (HSW.out _ hall).atWrk (k := k) f3
        cases ha'
        have f5 := lt_of_cell d0
        have hpv := Lib.hid (show prevAt l (k + 1) = some y from prevAt_succ hy)
        have HCMP := Lib.hid (fun (wx : World) (kx : All w' wx) => workOrder_any y x ya yc xa xc wx (hyi.keep kx) (HXI2.out.keep kx))
        clear hy hyi
        have HALL := Lib.hid hall
        clear hall
        generalize w' = wi at *
        have ki : All wi wi := Kept.refl _ _
        obtain ⟨z, hz⟩ : ∃ z, z = cfW y x := ⟨_, rfl⟩
        rw [← hz] at HCMP
        by_cases hup : 0 ≤ z
        · have g0 : decide ((0 : Int) ≤ z) = true := by simpa using hup
          have he : wrkE ps (prevAt l (k + 1)) x = 7 := by rw [hpv.out]; exact wrkE_order HDAY.out h2 h3 HZA.out.symm (by show decide (0 ≤ cfW y x) = true; rw [← hz]; exact g0)
          have HF := Lib.hid (HFW.out 7 (by decide) (HAT.out.bad HX.out he (by decide)))
          clear hup he hz h2 h3
          go_upto_region 16 with fail
          go_region_held3 (fun w' => All wi w' ∧ w'.cell? ⟨b, off + k * 2, none⟩ = some (.int .i64 y.day) ∧ w'.cell? ⟨b, off + k * 2 + 1, none⟩ = some (.slice ya y.authors.length yc) ∧ w'.cell? ⟨xb, 0, none⟩ = some (.int .i64 x.day) ∧ w'.cell? ⟨xb, 1, none⟩ = some (.slice xa x.authors.length xc) ∧ w'.cell? ⟨wb, 2, none⟩ = some (.slice (some ⟨b, off, none⟩) l2 c2)) (first | exact ⟨ki, d0, d4, e0, e1, i2⟩ | exact ⟨ki, m0, m1, m2, m3, m4⟩ | (refine ⟨(by repeat (first | exact ki | exact Kept.refl _ _ | refine Kept.then_drew ?_ | refine Kept.then_drewN ?_ _)), ?_⟩; first | exact ⟨d0, d4, e0, e1, i2⟩ | exact ⟨m0, m1, m2, m3, m4⟩ | go_keep) | go_keep) (first | (go_at_call 121; refine (HCMP.out _ (by repeat (first | exact ki | exact Kept.refl _ _ | refine Kept.then_drew ?_ | refine Kept.then_drewN ?_ _))).mono ?_; rintro e wa ⟨rfl, hwa⟩; have m0 := hwa.1.cell d0 trivial; have m1 := hwa.1.cell d4 trivial; have m2 := hwa.1.cell e0 trivial; have m3 := hwa.1.cell e1 trivial; have m4 := hwa.1.cell i2 trivial; have ki := Kept.trans (show All wi _ from (by repeat (first | exact ki | exact Kept.refl _ _ | refine Kept.then_drew ?_ | refine Kept.then_drewN ?_ _))) hwa.1))
          go_wp2_with fail
          go_ret
          exact ⟨ret_int' HF.out.symm, HK0.out.trans (HALL.out.trans (by repeat (first | exact ki | exact Kept.refl _ _ | refine Kept.then_drew ?_ | refine Kept.then_drewN ?_ _)))⟩
        · have g0 : decide ((0 : Int) ≤ z) = false := by simpa using hup
          have he : wrkE ps (prevAt l (k + 1)) x = 0 := by rw [hpv.out]; exact wrkE_ok HDAY.out h2 h3 HZA.out.symm (by show decide (0 ≤ cfW y x) = false; rw [← hz]; exact g0)
          have HN := Lib.hid (HAT.out.next HX.out he)
          clear hup he hz h2 h3
          go_upto_region 16 with fail
          go_region_held3 (fun w' => All wi w' ∧ w'.cell? ⟨b, off + k * 2, none⟩ = some (.int .i64 y.day) ∧ w'.cell? ⟨b, off + k * 2 + 1, none⟩ = some (.slice ya y.authors.length yc) ∧ w'.cell? ⟨xb, 0, none⟩ = some (.int .i64 x.day) ∧ w'.cell? ⟨xb, 1, none⟩ = some (.slice xa x.authors.length xc) ∧ w'.cell? ⟨wb, 2, none⟩ = some (.slice (some ⟨b, off, none⟩) l2 c2)) (first | exact ⟨ki, d0, d4, e0, e1, i2⟩ | exact ⟨ki, m0, m1, m2, m3, m4⟩ | (refine ⟨(by repeat (first | exact ki | exact Kept.refl _ _ | refine Kept.then_drew ?_ | refine Kept.then_drewN ?_ _)), ?_⟩; first | exact ⟨d0, d4, e0, e1, i2⟩ | exact ⟨m0, m1, m2, m3, m4⟩ | go_keep) | go_keep) (first | (go_at_call 121; refine (HCMP.out _ (by repeat (first | exact ki | exact Kept.refl _ _ | refine Kept.then_drew ?_ | refine Kept.then_drewN ?_ _))).mono ?_; rintro e wa ⟨rfl, hwa⟩; have m0 := hwa.1.cell d0 trivial; have m1 := hwa.1.cell d4 trivial; have m2 := hwa.1.cell e0 trivial; have m3 := hwa.1.cell e1 trivial; have m4 := hwa.1.cell i2 trivial; have ki := Kept.trans (show All wi _ from (by repeat (first | exact ki | exact Kept.refl _ _ | refine Kept.then_drew ?_ | refine Kept.then_drewN ?_ _))) hwa.1))
          go_wp2_with fail
          go_roundw
          case rel => exact ⟨k + 1 + 1, by omega, by go_num, HN.out, (HALL.out.trans (by repeat (first | exact ki | exact Kept.refl _ _ | refine Kept.then_drew ?_ | refine Kept.then_drewN ?_ _)))⟩
          case measure => simp [intOf]; omega
    · have hd : decide ((k : Int) < (l2 : Int)) = false := by simp; omega
      have HFB' := Lib.hid (show wbF ps l m = bondsF ps m from wbF_bonds (by rw [HSC.out]; exact hat.ok (by have := HLW.out; omega)))
      clear hat HFW HSC HSW HAN HEG
      have i3 := cell_at (i := 3) (HC.out _ hall) rfl
      by_cases hbig2 : 1000 < l3
      · have hd1 : decide ((1000 : Int) < (l3 : Int)) = true := by simp; omega
        have HF := Lib.hid (show wbF ps l m = 2 from by rw [HFB'.out]; exact bondsF_large' (by have := HLB.out; omega))
        go_wp2_with fail
        go_ret
        exact ⟨ret_int' HF.out.symm, (HK0.out.trans (by repeat (first | exact hall | refine Kept.then_drew ?_ | refine Kept.then_drewN ?_ _ | refine Kept.then_alloc ?_ _)))⟩
      have hd1 : decide ((1000 : Int) < (l3 : Int)) = false := by simp; omega
      have HFN := Lib.hid (show ∀ z, scanF (bndE ps) none m = z → wbF ps l m = z from fun z h => by rw [HFB'.out, bondsF_scan' (by have := HLB.out; omega)]; exact h)
      clear HFB'
      go_wp2_with fail
      go_loopw [65] (fun i wr => ∃ k : Nat, k ≤ l3 ∧ i = .int .i64 k ∧ ScanAt (bndE ps) m k ∧ All w2 wr) (fun i _ => l3 - (intOf i).toNat)
      case atStart => exact ⟨0, Nat.zero_le _, rfl, ScanAt.zero _ _, (by repeat (first | exact hall | refine Kept.then_drew ?_ | refine Kept.then_drewN ?_ _ | refine Kept.then_alloc ?_ _))⟩
      case round =>
        clear hall i3 hd hlt hk
        obtain ⟨k, hk, rfl, hat, hall⟩ := hrel
        obtain ⟨wo, rfl⟩ : ∃ wo : World, wo = wr := ⟨_, rfl⟩
        by_cases hlt : k < l3
        · obtain ⟨b, off, x, ha, -, c0', c1', hxs, hx, -⟩ := (HSB.out _ hall).atBnd hlt
          subst ha
          have HX := Lib.hid hx
          have HAT := Lib.hid hat
          have hb9 := heap_at wo (.cells #[.string x.a, .string x.b] 75) _ rfl
          obtain ⟨xb, hxb⟩ : ∃ z, z = wo.heap.size := ⟨_, rfl⟩
          have HXB := Lib.hid hxb
          rw [← hxb] at hb9
          have hall' : All w2 (wo.alloc (.cells #[.string x.a, .string x.b] 75)) := hall.then_alloc _
          clear hxb hall hx hat
          go_upto_region 24 with fail
          simp only [← HXB.out]
          generalize wo.alloc (.cells #[.string x.a, .string x.b] 75) = w8 at *
          have hall := hall'
          have e0 := cell_at (i := 0) hb9 rfl
          have e1 := cell_at (i := 1) hb9 rfl
          have i4 := HCF.out _ hall
          clear hb9 c0' c1' hall'
          cases ha : hasK ps x.a with
          | false =>
            have HF := Lib.hid (HFN.out 8 (HAT.out.bad HX.out (bndE_a' ha) (by decide)))
            go_wp2_with fail
            refine (HNO.out x.a _ (by repeat (first | exact hall | refine Kept.then_drew ?_ | refine Kept.then_drewN ?_ _ | refine Kept.then_alloc ?_ _))).mono ?_
            rintro e w' ⟨rfl, hkw⟩
            rw [ha]
            have e0 := hkw.cell e0 trivial
            have e1 := hkw.cell e1 trivial
            have i4 := hkw.cell i4 trivial
            have hall := Kept.trans (show All w2 _ from (by repeat (first | exact hall | refine Kept.then_drew ?_ | refine Kept.then_drewN ?_ _ | refine Kept.then_alloc ?_ _))) hkw
            go_wp2_with fail
            go_ret
            exact ⟨ret_int' HF.out.symm, (HK0.out.trans (by repeat (first | exact hall | refine Kept.then_drew ?_ | refine Kept.then_drewN ?_ _ | refine Kept.then_alloc ?_ _)))⟩
          | true =>
          cases hb : hasK ps x.b with
          | false =>
            have HF := Lib.hid (HFN.out 8 (HAT.out.bad HX.out (bndE_b' hb) (by decide)))
            go_wp2_with fail
            refine (HNO.out x.a _ (by repeat (first | exact hall | refine Kept.then_drew ?_ | refine Kept.then_drewN ?_ _ | refine Kept.then_alloc ?_ _))).mono ?_
            rintro e w' ⟨rfl, hkw⟩
            rw [ha]
            have e0 := hkw.cell e0 trivial
            have e1 := hkw.cell e1 trivial
            have i4 := hkw.cell i4 trivial
            have hall := Kept.trans (show All w2 _ from (by repeat (first | exact hall | refine Kept.then_drew ?_ | refine Kept.then_drewN ?_ _ | refine Kept.then_alloc ?_ _))) hkw
            go_wp2_with fail
            refine (HNO.out x.b _ (by repeat (first | exact hall | refine Kept.then_drew ?_ | refine Kept.then_drewN ?_ _ | refine Kept.then_alloc ?_ _))).mono ?_
            rintro e w' ⟨rfl, hkw⟩
            rw [hb]
            have e0 := hkw.cell e0 trivial
            have e1 := hkw.cell e1 trivial
            have i4 := hkw.cell i4 trivial
            have hall := Kept.trans (show All w2 _ from (by repeat (first | exact hall | refine Kept.then_drew ?_ | refine Kept.then_drewN ?_ _ | refine Kept.then_alloc ?_ _))) hkw
            go_wp2_with fail
            go_ret
            exact ⟨ret_int' HF.out.symm, (HK0.out.trans (by repeat (first | exact hall | refine Kept.then_drew ?_ | refine Kept.then_drewN ?_ _ | refine Kept.then_alloc ?_ _)))⟩
          | true =>
          have HA := Lib.hid ha
          have HBB := Lib.hid hb
          go_wp2_with fail
          refine (HNO.out x.a _ (by repeat (first | exact hall | refine Kept.then_drew ?_ | refine Kept.then_drewN ?_ _ | refine Kept.then_alloc ?_ _))).mono ?_
          rintro e w' ⟨rfl, hkw⟩
          rw [ha]
          have e0 := hkw.cell e0 trivial
          have e1 := hkw.cell e1 trivial
          have i4 := hkw.cell i4 trivial
          have hall := Kept.trans (show All w2 _ from (by repeat (first | exact hall | refine Kept.then_drew ?_ | refine Kept.then_drewN ?_ _ | refine Kept.then_alloc ?_ _))) hkw
          go_wp2_with fail
          refine (HNO.out x.b _ (by repeat (first | exact hall | refine Kept.then_drew ?_ | refine Kept.then_drewN ?_ _ | refine Kept.then_alloc ?_ _))).mono ?_
          rintro e w' ⟨rfl, hkw⟩
          rw [hb]
          have e0 := hkw.cell e0 trivial
          have e1 := hkw.cell e1 trivial
          have i4 := hkw.cell i4 trivial
          have hall := Kept.trans (show All w2 _ from (by repeat (first | exact hall | refine Kept.then_drew ?_ | refine Kept.then_drewN ?_ _ | refine Kept.then_alloc ?_ _))) hkw
          clear ha hb
          cases hle : leB x.b x.a with
          | true =>
            have hle' : (Op.bytesLess x.b.toList x.a.toList || x.b.toList == x.a.toList) = true := hle
            have HF := Lib.hid (HFN.out 7 (HAT.out.bad HX.out (bndE_le' HA.out HBB.out hle) (by decide)))
            clear hle
            go_upto_region 26 with fail
            go_quiet (fail)
            go_wp2_with fail
            go_ret
            exact ⟨ret_int' HF.out.symm, (HK0.out.trans (by repeat (first | exact hall | refine Kept.then_drew ?_ | refine Kept.then_drewN ?_ _ | refine Kept.then_alloc ?_ _)))⟩
          | false =>
          have hle' : (Op.bytesLess x.b.toList x.a.toList || x.b.toList == x.a.toList) = false := hle
          have HLE := Lib.hid hle
          clear hle
          have i3 := cell_at (i := 3) (HC.out _ (by repeat (first | exact hall | refine Kept.then_drew ?_ | refine Kept.then_drewN ?_ _ | refine Kept.then_alloc ?_ _))) rfl
          rcases k with _ | k
          · have HN := Lib.hid (HAT.out.next HX.out (bndE_ok' HA.out HBB.out HLE.out rfl))
            go_upto_region 26 with fail
            go_quiet (fail)
            go_wp2_with fail
            go_roundw
            case rel => exact ⟨1, by omega, rfl, HN.out, (by repeat (first | exact hall | refine Kept.then_drew ?_ | refine Kept.then_drewN ?_ _ | refine Kept.then_alloc ?_ _))⟩
            case measure => simp [intOf]; omega
          · have f1 : (0 : Int) ≤ (k : Int) := by omega
            have f2 : (k : Int) < (l3 : Int) := by omega
            have f3 : k < l3 := by omega
            have f4 : IntKind.i64.wrap (k : Int) = (k : Int) := IntWalk.i64_in _ (by omega)
            obtain ⟨b', off', y, ha', -, d0, d4, hys, hy, -⟩ := (HSB.out _ hall).atBnd (k := k) f3
            cases ha'
            have f5 := lt_of_cell d0
            have hpv := Lib.hid (show prevAt m (k + 1) = some y from prevAt_succ hy)
            have HCMP := Lib.hid (fun (wx : World) => bondOrder_any y x wx hys hxs)
            have HALL := Lib.hid hall
            clear hy hys hxs hall
            generalize w' = wi at *
            have ki : All wi wi := Kept.refl _ _
            obtain ⟨z, hz⟩ : ∃ z, z = cfB y x := ⟨_, rfl⟩
            rw [← hz] at HCMP
            by_cases hup : 0 ≤ z
            · have g0 : decide ((0 : Int) ≤ z) = true := by simpa using hup
              have he : bndE ps (prevAt m (k + 1)) x = 7 := by rw [hpv.out]; exact bndE_or' HA.out HBB.out (by show decide (0 ≤ cfB y x) = true; rw [← hz]; exact g0)
              have HF := Lib.hid (HFN.out 7 (HAT.out.bad HX.out he (by decide)))
              clear hup he hz
              go_upto_region 26 with fail
              go_region_held3 (fun w' => All wi w' ∧ w'.cell? ⟨b, off + k * 2, none⟩ = some (.string y.a) ∧ w'.cell? ⟨b, off + k * 2 + 1, none⟩ = some (.string y.b) ∧ w'.cell? ⟨xb, 0, none⟩ = some (.string x.a) ∧ w'.cell? ⟨xb, 1, none⟩ = some (.string x.b) ∧ w'.cell? ⟨wb, 3, none⟩ = some (.slice (some ⟨b, off, none⟩) l3 c3)) (first | exact ⟨ki, d0, d4, e0, e1, i3⟩ | exact ⟨ki, m0, m1, m2, m3, m4⟩ | (refine ⟨(by repeat (first | exact ki | exact Kept.refl _ _ | refine Kept.then_drew ?_ | refine Kept.then_drewN ?_ _)), ?_⟩; first | exact ⟨d0, d4, e0, e1, i3⟩ | exact ⟨m0, m1, m2, m3, m4⟩ | go_keep) | go_keep) (first | (go_at_call 124; refine (HCMP.out _).mono ?_; rintro e wa ⟨rfl, hwa⟩; have m0 := hwa.1.cell d0 trivial; have m1 := hwa.1.cell d4 trivial; have m2 := hwa.1.cell e0 trivial; have m3 := hwa.1.cell e1 trivial; have m4 := hwa.1.cell i3 trivial; have ki := Kept.trans (show All wi _ from (by repeat (first | exact ki | exact Kept.refl _ _ | refine Kept.then_drew ?_ | refine Kept.then_drewN ?_ _))) hwa.1))
              go_wp2_with fail
              go_ret
              exact ⟨ret_int' HF.out.symm, HK0.out.trans (HALL.out.trans (by repeat (first | exact ki | exact Kept.refl _ _ | refine Kept.then_drew ?_ | refine Kept.then_drewN ?_ _)))⟩
            · have g0 : decide ((0 : Int) ≤ z) = false := by simpa using hup
              have he : bndE ps (prevAt m (k + 1)) x = 0 := by rw [hpv.out]; exact bndE_ok' HA.out HBB.out HLE.out (by show decide (0 ≤ cfB y x) = false; rw [← hz]; exact g0)
              have HN := Lib.hid (HAT.out.next HX.out he)
              clear hup he hz
              go_upto_region 26 with fail
              go_region_held3 (fun w' => All wi w' ∧ w'.cell? ⟨b, off + k * 2, none⟩ = some (.string y.a) ∧ w'.cell? ⟨b, off + k * 2 + 1, none⟩ = some (.string y.b) ∧ w'.cell? ⟨xb, 0, none⟩ = some (.string x.a) ∧ w'.cell? ⟨xb, 1, none⟩ = some (.string x.b) ∧ w'.cell? ⟨wb, 3, none⟩ = some (.slice (some ⟨b, off, none⟩) l3 c3)) (first | exact ⟨ki, d0, d4, e0, e1, i3⟩ | exact ⟨ki, m0, m1, m2, m3, m4⟩ | (refine ⟨(by repeat (first | exact ki | exact Kept.refl _ _ | refine Kept.then_drew ?_ | refine Kept.then_drewN ?_ _)), ?_⟩; first | exact ⟨d0, d4, e0, e1, i3⟩ | exact ⟨m0, m1, m2, m3, m4⟩ | go_keep) | go_keep) (first | (go_at_call 124; refine (HCMP.out _).mono ?_; rintro e wa ⟨rfl, hwa⟩; have m0 := hwa.1.cell d0 trivial; have m1 := hwa.1.cell d4 trivial; have m2 := hwa.1.cell e0 trivial; have m3 := hwa.1.cell e1 trivial; have m4 := hwa.1.cell i3 trivial; have ki := Kept.trans (show All wi _ from (by repeat (first | exact ki | exact Kept.refl _ _ | refine Kept.then_drew ?_ | refine Kept.then_drewN ?_ _))) hwa.1))
              go_wp2_with fail
              go_roundw
              case rel => exact ⟨k + 1 + 1, by omega, by go_num, HN.out, (HALL.out.trans (by repeat (first | exact ki | exact Kept.refl _ _ | refine Kept.then_drew ?_ | refine Kept.then_drewN ?_ _)))⟩
              case measure => simp [intOf]; omega
        · have hd : decide ((k : Int) < (l3 : Int)) = false := by simp; omega
          have HF := Lib.hid (HFN.out 0 (hat.ok (by have := HLB.out; omega)))
          clear hat
          go_wp2_with fail
          go_ret
          exact ⟨ret_int' HF.out.symm, (HK0.out.trans (by repeat (first | exact hall | refine Kept.then_drew ?_ | refine Kept.then_drewN ?_ _ | refine Kept.then_alloc ?_ _)))⟩
end Go.Proofs.YtgobnlgmbplggaaGreatDoor
