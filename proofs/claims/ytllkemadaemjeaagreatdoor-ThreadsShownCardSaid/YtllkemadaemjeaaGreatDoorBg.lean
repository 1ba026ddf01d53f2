/- BoardFault answers boardF. -/
import Derived.Test.YtllkemadaemjeaaGreatDoorBf
namespace Go.Proofs.YtllkemadaemjeaaGreatDoor
open Go.RowKit

theorem pairs1_any (bb : Nat) (v1 v2 v3 : Value) (a : Option Addr) (len cap : Nat) (xs : List Pair2) (w : World) (hb : BoardAt bb (.slice a len cap) v1 v2 v3 w) (hs : Sl RPair 2 (fun _ => True) w a len xs) (hl : len ≤ 1000000) :
    Calls Tryz.prog 126 #[.pointer (some ⟨bb, 0, none⟩)] w fun e w' => e = .returned (.int .i64 (pairsF xs)) ∧ All w w' := by
  have hI := Lib.hid (pairsFault_any a len cap xs w hs hl)
  have c0 := hb.1
  clear hs hb
  go_enter Tryz.func126, Tryz.ntmps126
  go_wp2_with fail
  refine hI.out.mono ?_
  rintro e w' ⟨rfl, hw⟩
  go_wp2_with fail
  go_ret
  exact ⟨rfl, hw⟩
theorem pairs2_any (bb : Nat) (v0 v2 v3 : Value) (a : Option Addr) (len cap : Nat) (xs : List Pair2) (w : World) (hb : BoardAt bb v0 (.slice a len cap) v2 v3 w) (hs : Sl RPair 2 (fun _ => True) w a len xs) (hl : len ≤ 1000000) :
    Calls Tryz.prog 127 #[.pointer (some ⟨bb, 0, none⟩)] w fun e w' => e = .returned (.int .i64 (pairsF xs)) ∧ All w w' := by
  have hI := Lib.hid (pairsFault_any a len cap xs w hs hl)
  have c1 := hb.2.1
  clear hs hb
  go_enter Tryz.func127, Tryz.ntmps127
  go_wp2_with fail
  refine hI.out.mono ?_
  rintro e w' ⟨rfl, hw⟩
  go_wp2_with fail
  go_ret
  exact ⟨rfl, hw⟩

/-- The first of two functions' errors. -/
def two (r1 r2 : Int) : Int := if r1 ≠ 0 then r1 else r2
set_option maxHeartbeats 1600000 in
theorem first2_any (g1 g2 : FuncId) (caps : Array Value) (eg1 : ∀ args w, (callFunc g1 args).run Tryz.prog w = .ok (.enter g1 args) w) (eg2 : ∀ args w, (callFunc g2 args).run Tryz.prog w = .ok (.enter g2 args) w) (blk : Nat) (w : World)
    (c0 : w.cell? ⟨blk, 0, none⟩ = some (.func (.func g1) #[] caps)) (c1 : w.cell? ⟨blk, 1, none⟩ = some (.func (.func g2) #[] caps)) (r1 r2 : Int)
    (h1 : ∀ wx, All w wx → Calls Tryz.prog g1 caps wx fun e w' => e = .returned (.int .i64 r1) ∧ All wx w') (h2 : ∀ wx, All w wx → Calls Tryz.prog g2 caps wx fun e w' => e = .returned (.int .i64 r2) ∧ All wx w') :
    Calls Tryz.prog 125 #[.slice (some ⟨blk, 0, none⟩) 2 2] w fun e w' => e = .returned (.int .i64 (two r1 r2)) ∧ All w w' := by
  have H1 := Lib.hid h1
  have H2 := Lib.hid h2
  have HC := Lib.hid (fun (wx : World) (k : All w wx) => And.intro (k.cell c0 trivial) (k.cell c1 trivial))
  obtain ⟨er, her⟩ : ∃ e, e = two r1 r2 := ⟨_, rfl⟩
  have HER := Lib.hid her
  rw [← her]
  clear h1 h2 c0 c1 her
  go_enter Tryz.func125, Tryz.ntmps125
  go_wp2_with fail
  go_loopw [8] (fun i wr => ∃ k : Nat, k ≤ 2 ∧ i = .int .i64 k ∧ (1 ≤ k → r1 = 0) ∧ (2 ≤ k → r2 = 0) ∧ All w wr) (fun i _ => 2 - (intOf i).toNat)
  case atStart => exact ⟨0, by omega, rfl, fun h => absurd h (by omega), fun h => absurd h (by omega), Kept.refl _ _⟩
  case round =>
    obtain ⟨k, hk, rfl, hz1, hz2, hall⟩ := hrel
    obtain ⟨wo, rfl⟩ : ∃ wo : World, wo = wr := ⟨_, rfl⟩
    have Z1 := Lib.hid hz1
    have Z2 := Lib.hid hz2
    clear hz1 hz2
    obtain ⟨c0, c1⟩ := HC.out _ hall
    have h3 : k = 0 ∨ k = 1 ∨ k = 2 := by omega
    rcases h3 with rfl | rfl | rfl
    · go_wp2_with fail
      refine (H1.out _ hall).mono ?_
      rintro e w2 ⟨rfl, hw2⟩
      by_cases hr : r1 = 0
      · have HR := Lib.hid hr
        have hne : (r1 != 0) = false := by simp [hr]
        clear hr
        go_wp2_with fail
        go_roundw
        case rel => exact ⟨1, by omega, rfl, fun _ => HR.out, fun h => absurd h (by omega), hall.trans hw2⟩
        case measure => simp [intOf]
      · have hne : (r1 != 0) = true := by simpa using hr
        have hfin := Lib.hid (show er = r1 from by rw [HER.out, two, if_pos hr])
        clear hr
        go_wp2_with fail
        go_ret
        exact ⟨ret_int' hfin.out.symm, hall.trans hw2⟩
    · go_wp2_with fail
      refine (H2.out _ hall).mono ?_
      rintro e w2 ⟨rfl, hw2⟩
      by_cases hr : r2 = 0
      · have HR := Lib.hid hr
        have hne : (r2 != 0) = false := by simp [hr]
        clear hr
        go_wp2_with fail
        go_roundw
        case rel => exact ⟨2, by omega, rfl, fun _ => Z1.out (by omega), fun _ => HR.out, hall.trans hw2⟩
        case measure => simp [intOf]
      · have hne : (r2 != 0) = true := by simpa using hr
        have hfin := Lib.hid (show er = r2 from by rw [HER.out, two, if_neg (by simp [Z1.out (by omega)])])
        clear hr
        go_wp2_with fail
        go_ret
        exact ⟨ret_int' hfin.out.symm, hall.trans hw2⟩
    · have hfin := Lib.hid (show er = 0 from by rw [HER.out, two, if_neg (by simp [Z1.out (by omega)])]; exact Z2.out (by omega))
      go_wp2_with fail
      go_ret
      exact ⟨ret_int' hfin.out.symm, hall⟩

set_option maxRecDepth 100000 in
set_option maxHeartbeats 6400000 in
theorem boardFault_any (a0 : Option Addr) (l0 c0 : Nat) (a1 : Option Addr) (l1 c1 : Nat) (a2 : Option Addr) (l2 c2 : Nat) (a3 : Option Addr) (l3 c3 : Nat) (b : Board4) (w : World) (h : BoardIs w a0 l0 a1 l1 a2 l2 a3 l3 b) (hc3 : l3 ≤ c3) :
    Calls Tryz.prog 70 #[.agg #[.slice a0 l0 c0, .slice a1 l1 c1, .slice a2 l2 c2, .slice a3 l3 c3]] w fun e w' => e = .returned (.int .i64 (boardF b)) ∧ All w w' := by
  have hk1 : All w (w.alloc (.cells #[.slice a0 l0 c0, .slice a1 l1 c1, .slice a2 l2 c2, .slice a3 l3 c3] 50)) := Kept.alloc _ _ _
  have hblk := heap_at w (.cells #[.slice a0 l0 c0, .slice a1 l1 c1, .slice a2 l2 c2, .slice a3 l3 c3] 50) _ rfl
  have hB : BoardAt w.heap.size (.slice a0 l0 c0) (.slice a1 l1 c1) (.slice a2 l2 c2) (.slice a3 l3 c3) (w.alloc (.cells #[.slice a0 l0 c0, .slice a1 l1 c1, .slice a2 l2 c2, .slice a3 l3 c3] 50)) := ⟨cell_at (i := 0) hblk rfl, cell_at (i := 1) hblk rfl, cell_at (i := 2) hblk rfl, cell_at (i := 3) hblk rfl⟩
  have HI := Lib.hid (h.keep hk1)
  obtain ⟨bb, hbb⟩ : ∃ b, b = w.heap.size := ⟨_, rfl⟩
  have Hbb := Lib.hid hbb
  have Hsz := Lib.hid (show w.heap.size + 1 = (w.alloc (.cells #[.slice a0 l0 c0, .slice a1 l1 c1, .slice a2 l2 c2, .slice a3 l3 c3] 50)).heap.size by simp)
  rw [← hbb] at hB
  have eg1 : ∀ args w, (callFunc 126 args).run Tryz.prog w = .ok (.enter 126 args) w := enters_of Tryz.func126 (by kernel_rfl) rfl
  have eg2 : ∀ args w, (callFunc 127 args).run Tryz.prog w = .ok (.enter 127 args) w := enters_of Tryz.func127 (by kernel_rfl) rfl
  have eg3 : ∀ args w, (callFunc 129 args).run Tryz.prog w = .ok (.enter 129 args) w := enters_of Tryz.func129 (by kernel_rfl) rfl
  clear hbb hblk h
  obtain ⟨er, her⟩ : ∃ e, e = boardF b := ⟨_, rfl⟩
  have HER := Lib.hid her
  rw [← her]
  clear her
  go_enter Tryz.func70, Tryz.ntmps70
  go_wp2_with fail
  simp only [Hsz.out]
  simp only [← Hbb.out]
  have HB := Lib.hid hB
  clear Hbb Hsz hB
  generalize w.alloc (.cells #[.slice a0 l0 c0, .slice a1 l1 c1, .slice a2 l2 c2, .slice a3 l3 c3] 50) = w1 at *
  have hka : All w1 (w1.alloc (.cells #[.func (.func 126) #[] #[.pointer (some ⟨bb, 0, none⟩)], .func (.func 127) #[] #[.pointer (some ⟨bb, 0, none⟩)]] 180)) := Kept.alloc _ _ _
  have hfb := heap_at w1 (.cells #[.func (.func 126) #[] #[.pointer (some ⟨bb, 0, none⟩)], .func (.func 127) #[] #[.pointer (some ⟨bb, 0, none⟩)]] 180) _ rfl
  obtain ⟨er2, her2⟩ : ∃ e, e = two (pairsF b.pairs) (pairsF b.barred) := ⟨_, rfl⟩
  have HE2 := Lib.hid her2
  refine (first2_any _ _ #[.pointer (some ⟨bb, 0, none⟩)] eg1 eg2 w1.heap.size _ (cell_at (i := 0) hfb rfl) (cell_at (i := 1) hfb rfl) (pairsF b.pairs) (pairsF b.barred)
    (fun wx k => pairs1_any bb _ _ _ a0 l0 c0 b.pairs wx (HB.out.keep (hka.trans k)) (HI.out.keep (hka.trans k)).pairs HI.out.n0)
    (fun wx k => pairs2_any bb _ _ _ a1 l1 c1 b.barred wx (HB.out.keep (hka.trans k)) (HI.out.keep (hka.trans k)).barred HI.out.n1)).mono ?_
  rintro e w2 ⟨rfl, hw2⟩
  have hall := hka.trans hw2
  rw [← her2]
  clear her2 hfb hka hw2
  by_cases hf0 : er2 = 0
  · subst hf0
    have hP1 : pairsF b.pairs = 0 := by
      have h := HE2.out
      unfold two at h
      split at h
      · omega
      · rename_i h1; simpa using h1
    have P1 := Lib.hid hP1
    have P2 := Lib.hid (show pairsF b.barred = 0 from by
      have h := HE2.out
      rw [two, if_neg (by simp [hP1])] at h
      exact h.symm)
    clear hP1
    obtain ⟨e0, e1, e2, e3⟩ := HB.out.keep hall
    obtain ⟨cb, hcb⟩ : ∃ c, c = clash b := ⟨_, rfl⟩
    have HCB := Lib.hid hcb
    clear hcb
    go_wp2_with fail
    refine (containsFuncP_any 129 _ eg3 (fun q => inP b.barred q.paper q.person) a0 l0 c0 b.pairs _ (HI.out.keep hall).pairs HI.out.n0 (barredR_answers (HB.out.keep hall) (HI.out.keep hall).barred HI.out.n1)).mono ?_
    rintro e w3 ⟨rfl, hw3⟩
    rw [show (b.pairs.any fun q => inP b.barred q.paper q.person) = cb from HCB.out.symm]
    have hall3 := hall.trans hw3
    clear e0 e1 e2 e3 hall hw3
    obtain ⟨e0, e1, e2, e3⟩ := HB.out.keep hall3
    cases cb with
    | true =>
      have hfin := Lib.hid (show er = 13 from by rw [HER.out]; exact boardF_3 P1.out P2.out HCB.out.symm)
      go_wp2_with fail
      go_ret
      exact ⟨ret_int' hfin.out.symm, hk1.trans hall3⟩
    | false =>
      by_cases h20 : 20 < l2
      · have hd : decide ((20 : Int) < (l2 : Int)) = true := by simp; omega
        have hfin := Lib.hid (show er = 2 from by rw [HER.out]; exact boardF_4 P1.out P2.out HCB.out.symm (by have := HI.out.heads.len; omega))
        go_wp2_with fail
        go_ret
        exact ⟨ret_int' hfin.out.symm, hk1.trans hall3⟩
      · have hd : decide ((20 : Int) < (l2 : Int)) = false := by simp; omega
        have P4 := Lib.hid (show ¬ 20 < b.heads.length from by have := HI.out.heads.len; omega)
        obtain ⟨f, hf⟩ : ∃ f, f = riseF none b.heads := ⟨_, rfl⟩
        have HF := Lib.hid hf
        clear hf h20
        go_wp2_with fail
        refine (rising_any a2 l2 c2 b.heads _ (HI.out.keep hall3).heads HI.out.n2).mono ?_
        rintro e w4 ⟨rfl, hw4⟩
        rw [← HF.out]
        have hall4 := hall3.trans hw4
        clear e0 e1 e2 e3 hall3 hw4
        obtain ⟨e0, e1, e2, e3⟩ := HB.out.keep hall4
        by_cases hf0 : f = 0
        · subst hf0
          have P5 := Lib.hid (show er = turnsF b.turns from by rw [HER.out]; exact boardF_6 P1.out P2.out HCB.out.symm P4.out HF.out.symm)
          have Hln := Lib.hid HI.out.turns.len
          obtain ⟨xs, hxs⟩ : ∃ xs, xs = b.turns := ⟨_, rfl⟩
          have HXS := Lib.hid hxs
          have HT := Lib.hid (show ∀ wx, All w1 wx → Sl RTurn 3 (fun _ => True) wx a3 l3 xs from fun wx k => by rw [hxs]; exact (HI.out.keep k).turns)
          have Hlen := Lib.hid HI.out.turns.len
          rw [← hxs] at Hlen P5
          have hl3 := HI.out.n3
          clear hxs
          by_cases h2000 : 2000 < l3
          · have hd3 : decide ((2000 : Int) < (l3 : Int)) = true := by simp; omega
            have hfin := Lib.hid (show er = 2 from by rw [P5.out, turnsF, if_pos (by have := Hlen.out; omega)])
            go_wp2_with fail
            go_ret
            exact ⟨ret_int' hfin.out.symm, hk1.trans hall4⟩
          · have hd3 : decide ((2000 : Int) < (l3 : Int)) = false := by simp; omega
            have hfin := Lib.hid (show er = turnsG [] xs from by rw [P5.out, turnsF, if_neg (by have := Hlen.out; omega)])
            go_wp2_with fail
            go_loopw [38] (fun i wr => ∃ k : Nat, k ≤ l3 ∧ i = .int .i64 k ∧ TurnAt xs k ∧ All w1 wr) (fun i _ => l3 - (intOf i).toNat)
            case atStart => exact ⟨0, Nat.zero_le _, rfl, TurnAt.zero _, hall4⟩
            case round =>
              obtain ⟨k, hk, rfl, hat, hwr⟩ := hrel
              obtain ⟨wo, rfl⟩ : ∃ wo : World, wo = wr := ⟨_, rfl⟩
              have HA := Lib.hid hat
              clear hat e0 e1 e2 e3
              by_cases hlt : k < l3
              · obtain ⟨b', off, x, ha, -, c0, c1, c2, hz1, hx, -, -⟩ := (HT.out _ hwr).atTurn hlt
                subst ha
                have Hx := Lib.hid hx
                have hblk := heap_at wo (.cells #[.int .i64 x.tm, .string x.paper, .bool x.op] 121) _ rfl
                have f0 := cell_at (i := 0) hblk rfl
                have f1 := cell_at (i := 1) hblk rfl
                have f2 := cell_at (i := 2) hblk rfl
                have hka : All wo (wo.alloc (.cells #[.int .i64 x.tm, .string x.paper, .bool x.op] 121)) := Kept.alloc _ _ _
                obtain ⟨tb, htb⟩ : ∃ b, b = wo.heap.size := ⟨_, rfl⟩
                have Htb := Lib.hid htb
                rw [← htb] at f0 f1 f2
                clear hx hblk htb
                have hwa : All w1 (wo.alloc (.cells #[.int .i64 x.tm, .string x.paper, .bool x.op] 121)) := hwr.trans hka
                obtain ⟨-, -, -, e3⟩ := HB.out.keep hwa
                by_cases hm1 : x.tm < 0 ∨ 5761440 ≤ x.tm
                · have hdm : decide (0 ≤ x.tm ∧ x.tm < 5761440) = false := decide_eq_false (by omega)
                  have HM := Lib.hid hm1
                  clear hm1
                  go_wp2_with fail
                  rw [← Htb.out]
                  refine (moment_any _ _).mono ?_
                  rintro e w' ⟨rfl, hh⟩
                  subst hh
                  rw [hdm]
                  go_wp2_with fail
                  go_ret
                  exact ⟨ret_int' (by rw [hfin.out]; exact (HA.out.bad Hx.out (turnF_arg HM.out) (by decide)).symm), hk1.trans hwa⟩
                · have hdm : decide (0 ≤ x.tm ∧ x.tm < 5761440) = true := decide_eq_true (by omega)
                  have HM := Lib.hid hm1
                  clear hm1
                  go_wp2_with fail
                  rw [← Htb.out]
                  refine (moment_any _ _).mono ?_
                  rintro e w' ⟨rfl, hh⟩
                  subst hh
                  rw [hdm]
                  generalize wo.alloc (.cells #[.int .i64 x.tm, .string x.paper, .bool x.op] 121) = wa at *
                  go_upto_region 18 with fail
                  go_cut [48] (fun v wx => v = .bool (earlier (xs.take k).getLast? x) ∧ All wa wx)
                  case first =>
                    rcases Nat.eq_zero_or_pos k with hk0 | hk0
                    · subst hk0
                      have hgd : decide ((0 : Int) < ((0 : Nat) : Int)) = false := by simp
                      have HO := Lib.hid (show earlier (xs.take 0).getLast? x = false by simp [earlier])
                      go_quiet (fail)
                      go_wp2_with fail
                      go_meet
                      exact ⟨by rw [HO.out], Kept.drewN _ _ _⟩
                    · obtain ⟨kp, rfl⟩ : ∃ kp, k = kp + 1 := ⟨k - 1, by omega⟩
                      obtain ⟨bq, oq, y, haq, -, p0, -, -, -, hy, -, -⟩ := (HT.out _ hwa).atTurn (k := kp) (by omega)
                      cases haq
                      have HO := Lib.hid (show earlier (xs.take (kp + 1)).getLast? x = decide (x.tm < y.tm) by rw [last_take hy]; rfl)
                      have g1 : IntKind.i64.wrap (kp : Int) = (kp : Int) := IntWalk.i64_in _ (by omega)
                      have g3 : (0 : Int) ≤ (kp : Int) := by omega
                      have g4 : (kp : Int) < (l3 : Int) := by omega
                      clear hy
                      go_quiet (fail)
                      go_wp2_with fail
                      go_meet
                      exact ⟨by rw [HO.out], Kept.drewN _ _ _⟩
                  case rest =>
                    obtain ⟨rfl, hx⟩ := hcut
                    obtain ⟨w2, rfl⟩ : ∃ y : World, y = wc := ⟨_, rfl⟩
                    replace f0 := hx.cell f0 trivial
                    replace f1 := hx.cell f1 trivial
                    replace f2 := hx.cell f2 trivial
                    replace e3 := hx.cell e3 trivial
                    have hw2 : All w1 w2 := hwa.trans hx
                    clear hwa c0 c1 c2
                    cases hor : earlier (xs.take k).getLast? x with
                    | true =>
                      have HO := Lib.hid hor
                      go_wp2_with fail
                      go_ret
                      exact ⟨ret_int' (by rw [hfin.out]; exact (HA.out.bad Hx.out (turnF_order HM.out HO.out) (by decide)).symm), hk1.trans hw2⟩
                    | false =>
                      have HO := Lib.hid hor
                      go_wp2_with fail
                      refine (key_any _ _ hz1).mono ?_
                      rintro e w5 ⟨rfl, hw5⟩
                      replace f1 := hw5.cell f1 trivial
                      replace f2 := hw5.cell f2 trivial
                      replace e3 := hw5.cell e3 trivial
                      have hw25 := hw2.trans hw5
                      cases hky : isKeyB x.paper with
                      | false =>
                        go_wp2_with fail
                        go_ret
                        exact ⟨ret_int' (by rw [hfin.out]; exact (HA.out.bad Hx.out (turnF_name HM.out HO.out hky) (by decide)).symm), hk1.trans hw25⟩
                      | true =>
                        have HK := Lib.hid hky
                        have hkc : k ≤ c3 := by omega
                        have hkc2 : (k : Int) ≤ (c3 : Int) := by omega
                        clear hky hor f0
                        go_wp2_with fail
                        go_loopw [7, 73] (fun o j wr2 => ∃ m : Nat, m ≤ k ∧ j = .int .i64 m ∧ o = .bool (lastOp (xs.take m) x.paper) ∧ All w5 wr2) (fun _ j _ => k - (intOf j).toNat)
                        case atStart => exact ⟨0, Nat.zero_le _, rfl, rfl, Kept.refl _ _⟩
                        case round =>
                          obtain ⟨m, hm, rfl, rfl, hwm⟩ := hrel
                          obtain ⟨wn, rfl⟩ : ∃ y : World, y = wr := ⟨_, rfl⟩
                          replace f1 := hwm.cell f1 trivial
                          replace f2 := hwm.cell f2 trivial
                          by_cases hmk : m < k
                          · obtain ⟨bq, oq, y, haq, -, p0, p1, p2, -, -, -, hyt⟩ := (HT.out _ (hw25.trans hwm)).atTurn (k := m) (by omega)
                            cases haq
                            have HYT := Lib.hid hyt
                            have hblk := heap_at wn (.cells #[.int .i64 y.tm, .string y.paper, .bool y.op] 121) _ rfl
                            have q1 := cell_at (i := 1) hblk rfl
                            have q2 := cell_at (i := 2) hblk rfl
                            have hkn : All wn (wn.alloc (.cells #[.int .i64 y.tm, .string y.paper, .bool y.op] 121)) := Kept.alloc _ _ _
                            have f1' := hkn.cell f1 trivial
                            have hltb := lt_of_cell f1
                            clear hyt hblk
                            by_cases hyx : y.paper = x.paper
                            · have d : (y.paper.toList == x.paper.toList) = true := by simp [hyx]
                              have HL := Lib.hid (show lastOp (xs.take (m + 1)) x.paper = y.op from by rw [HYT.out, lastOp_snoc, if_pos hyx])
                              clear hyx
                              go_wp2_with fail
                              go_roundw
                              case rel => exact ⟨m + 1, by omega, by go_num, by rw [HL.out], hwm.trans hkn⟩
                              case measure => simp [intOf]; omega
                            · have d : (y.paper.toList == x.paper.toList) = false := bytes_ne hyx
                              have HL := Lib.hid (show lastOp (xs.take (m + 1)) x.paper = lastOp (xs.take m) x.paper from by rw [HYT.out, lastOp_snoc, if_neg hyx])
                              clear hyx
                              go_wp2_with fail
                              go_roundw
                              case rel => exact ⟨m + 1, by omega, by go_num, by rw [HL.out], hwm.trans hkn⟩
                              case measure => simp [intOf]; omega
                          · have hdm2 : decide ((m : Int) < (k : Int)) = false := by simp; omega
                            obtain ⟨ob, hob⟩ : ∃ ob, ob = lastOp (xs.take m) x.paper := ⟨_, rfl⟩
                            have hmk2 : m = k := by omega
                            have HOB := Lib.hid (show ob = lastOp (xs.take k) x.paper from by rw [hob, hmk2])
                            rw [← hob]
                            clear hob hmk2
                            by_cases hst : ob = x.op
                            · have d : (ob == x.op) = true := by simp [hst]
                              have HS := Lib.hid (show lastOp (xs.take k) x.paper = x.op from by rw [← HOB.out]; exact hst)
                              clear hst
                              go_wp2_with fail
                              go_ret
                              exact ⟨ret_int' (by rw [hfin.out]; exact (HA.out.bad Hx.out (turnF_state HM.out HO.out HK.out HS.out) (by decide)).symm), (hk1.trans hw25).trans hwm⟩
                            · have d : (ob == x.op) = false := by simp [hst]
                              have HS := Lib.hid (show ¬ lastOp (xs.take k) x.paper = x.op from by rw [← HOB.out]; exact hst)
                              clear hst
                              go_wp2_with fail
                              go_roundw
                              case rel => exact ⟨k + 1, by omega, by go_num, HA.out.next Hx.out (turnF_ok HM.out HO.out HK.out HS.out), hw25.trans hwm⟩
                              case measure => simp [intOf]; omega
              · have hdk : decide ((k : Int) < (l3 : Int)) = false := by simp; omega
                go_wp2_with fail
                go_ret
                exact ⟨ret_int' (by rw [hfin.out]; exact (HA.out.ok (by have := Hlen.out; omega)).symm), hk1.trans hwr⟩
        · have hne : (f != 0) = true := by simpa using hf0
          have hfin := Lib.hid (show er = f from by rw [HER.out, HF.out]; exact boardF_5 P1.out P2.out HCB.out.symm P4.out (by rw [← HF.out]; exact hf0))
          clear hf0
          go_wp2_with fail
          go_ret
          exact ⟨ret_int' hfin.out.symm, hk1.trans hall4⟩
  · have hne : (er2 != 0) = true := by simpa using hf0
    have hfin := Lib.hid (show er = er2 from by
      rw [HER.out, HE2.out]
      by_cases h1 : pairsF b.pairs = 0
      · have h2 : pairsF b.barred ≠ 0 := fun h2 => hf0 (by rw [HE2.out, two, if_neg (by simp [h1])]; exact h2)
        rw [boardF_2 h1 h2, two, if_neg (by simp [h1])]
      · rw [boardF_1 h1, two, if_pos h1])
    clear hf0
    go_wp2_with fail
    go_ret
    exact ⟨ret_int' hfin.out.symm, hk1.trans hall⟩
end Go.Proofs.YtllkemadaemjeaaGreatDoor
