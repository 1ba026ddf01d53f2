/- isOpen, may, Open, May. -/
import Derived.Test.YtllkemadaemjeaaGreatDoorBf
import Derived.Test.YtllkemadaemjeaaGreatDoorKc
namespace Go.Proofs.YtllkemadaemjeaaGreatDoor
open Go.RowKit

set_option maxRecDepth 100000 in
set_option maxHeartbeats 3200000 in
theorem isOpen_any (v0 v1 v2 : Value) (a3 : Option Addr) (l3 c3 : Nat) (xs : List Turn3) (p : ByteArray) (n : Int) (w : World) (hs : Sl RTurn 3 (fun _ => True) w a3 l3 xs) (hl : l3 ≤ 1000000) (_o0 : v0.oneCell' = true) (_o1 : v1.oneCell' = true) (_o2 : v2.oneCell' = true) :
    Calls Tryz.prog 165 #[.agg #[v0, v1, v2, .slice a3 l3 c3], .string p, .int .i64 n] w fun e w' => e = .returned (.bool (openAt xs p n)) ∧ All w w' := by
  have hk1 : All w (w.alloc (.cells #[v0, v1, v2, .slice a3 l3 c3] 50)) := Kept.alloc _ _ _
  have hblk := heap_at w (.cells #[v0, v1, v2, .slice a3 l3 c3] 50) _ rfl
  have e3 := cell_at (i := 3) hblk rfl
  have Hlen := Lib.hid hs.len
  have HT := Lib.hid (fun (wx : World) (k : All (w.alloc (.cells #[v0, v1, v2, .slice a3 l3 c3] 50)) wx) => hs.keep RTurn.ok (hk1.trans k))
  clear hblk hs
  go_enter Tryz.func165, Tryz.ntmps165
  go_wp2_with fail
  generalize w.alloc (.cells #[v0, v1, v2, .slice a3 l3 c3] 50) = w1 at *
  go_loopw [7, 13] (fun o j wr => ∃ m : Nat, m ≤ l3 ∧ j = .int .i64 m ∧ o = .bool (openAt (xs.take m) p n) ∧ All w1 wr) (fun _ j _ => l3 - (intOf j).toNat)
  case atStart => exact ⟨0, Nat.zero_le _, rfl, rfl, Kept.refl _ _⟩
  case round =>
    obtain ⟨m, hm, rfl, rfl, hwm⟩ := hrel
    obtain ⟨wn, rfl⟩ : ∃ y : World, y = wr := ⟨_, rfl⟩
    clear e3
    by_cases hmk : m < l3
    · obtain ⟨bq, oq, y, haq, -, p0, p1, p2, -, -, -, hyt⟩ := (HT.out _ hwm).atTurn (k := m) hmk
      subst haq
      have HYT := Lib.hid hyt
      have hblk := heap_at wn (.cells #[.int .i64 y.tm, .string y.paper, .bool y.op] 121) _ rfl
      have q0 := cell_at (i := 0) hblk rfl
      have q1 := cell_at (i := 1) hblk rfl
      have q2 := cell_at (i := 2) hblk rfl
      have hkn : All wn (wn.alloc (.cells #[.int .i64 y.tm, .string y.paper, .bool y.op] 121)) := Kept.alloc _ _ _
      clear hyt hblk
      by_cases hyx : y.paper = p
      · have d : (y.paper.toList == p.toList) = true := by simp [hyx]
        by_cases htm : y.tm ≤ n
        · have d2 : decide (y.tm ≤ n) = true := by simpa using htm
          have HL := Lib.hid (show openAt (xs.take (m + 1)) p n = y.op from by rw [HYT.out, openAt_snoc, if_pos ⟨hyx, htm⟩])
          clear hyx htm
          go_wp2_with fail
          go_roundw
          case rel => exact ⟨m + 1, by omega, by go_num, by rw [HL.out], hwm.trans hkn⟩
          case measure => simp [intOf]; omega
        · have d2 : decide (y.tm ≤ n) = false := by simpa using htm
          have HL := Lib.hid (show openAt (xs.take (m + 1)) p n = openAt (xs.take m) p n from by rw [HYT.out, openAt_snoc, if_neg (fun h => htm h.2)])
          clear hyx htm
          go_wp2_with fail
          go_roundw
          case rel => exact ⟨m + 1, by omega, by go_num, by rw [HL.out], hwm.trans hkn⟩
          case measure => simp [intOf]; omega
      · have d : (y.paper.toList == p.toList) = false := bytes_ne hyx
        have HL := Lib.hid (show openAt (xs.take (m + 1)) p n = openAt (xs.take m) p n from by rw [HYT.out, openAt_snoc, if_neg (fun h => hyx h.1)])
        clear hyx
        go_wp2_with fail
        go_roundw
        case rel => exact ⟨m + 1, by omega, by go_num, by rw [HL.out], hwm.trans hkn⟩
        case measure => simp [intOf]; omega
    · have hdm2 : decide ((m : Int) < (l3 : Int)) = false := by simp; omega
      have HL := Lib.hid (show openAt (xs.take m) p n = openAt xs p n from by rw [List.take_of_length_le (by have := Hlen.out; omega)])
      rw [HL.out]
      go_wp2_with fail
      go_ret
      exact ⟨rfl, hk1.trans hwm⟩

set_option maxRecDepth 100000 in
set_option maxHeartbeats 3200000 in
theorem may_any (a0 : Option Addr) (l0 c0 : Nat) (a1 : Option Addr) (l1 c1 : Nat) (a2 : Option Addr) (l2 c2 : Nat) (a3 : Option Addr) (l3 c3 : Nat) (b : Board4) (p q : ByteArray) (n : Int) (w : World) (h : BoardIs w a0 l0 a1 l1 a2 l2 a3 l3 b) (hp : p.size ≤ 1000000) (hq : q.size ≤ 1000000) (hr0 : b.pairs.Pairwise ltPP) (hr1 : b.barred.Pairwise ltPP) :
    Calls Tryz.prog 124 #[.agg #[.slice a0 l0 c0, .slice a1 l1 c1, .slice a2 l2 c2, .slice a3 l3 c3], .string p, .string q, .int .i64 n] w fun e w' => e = .returned (.bool (mayB b p q n)) ∧ All w w' := by
  have hk1 : All w (w.alloc (.cells #[.slice a0 l0 c0, .slice a1 l1 c1, .slice a2 l2 c2, .slice a3 l3 c3] 50)) := Kept.alloc _ _ _
  have hblk := heap_at w (.cells #[.slice a0 l0 c0, .slice a1 l1 c1, .slice a2 l2 c2, .slice a3 l3 c3] 50) _ rfl
  have hB0 : BoardAt w.heap.size (.slice a0 l0 c0) (.slice a1 l1 c1) (.slice a2 l2 c2) (.slice a3 l3 c3) (w.alloc (.cells #[.slice a0 l0 c0, .slice a1 l1 c1, .slice a2 l2 c2, .slice a3 l3 c3] 50)) := ⟨cell_at (i := 0) hblk rfl, cell_at (i := 1) hblk rfl, cell_at (i := 2) hblk rfl, cell_at (i := 3) hblk rfl⟩
  have Hsz := Lib.hid (show w.heap.size + 1 = (w.alloc (.cells #[.slice a0 l0 c0, .slice a1 l1 c1, .slice a2 l2 c2, .slice a3 l3 c3] 50)).heap.size by simp)
  obtain ⟨bb, hbb⟩ : ∃ b, b = w.heap.size := ⟨_, rfl⟩
  have Hbb := Lib.hid hbb
  rw [← hbb] at hB0
  have HI0 := Lib.hid (h.keep hk1)
  have HR0 := Lib.hid hr0
  have HR1 := Lib.hid hr1
  clear hbb hblk h hr0 hr1
  go_enter Tryz.func124, Tryz.ntmps124
  go_wp2_with fail
  simp only [Hsz.out]
  simp only [← Hbb.out]
  clear Hsz Hbb
  generalize w.alloc (.cells #[.slice a0 l0 c0, .slice a1 l1 c1, .slice a2 l2 c2, .slice a3 l3 c3] 50) = w0 at *
  have hk2 : All w0 (w0.alloc (.cells #[.string p, .string q] 101)) := Kept.alloc _ _ _
  have hpb := heap_at w0 (.cells #[.string p, .string q] 101) _ rfl
  have q0 := cell_at (i := 0) hpb rfl
  have q1 := cell_at (i := 1) hpb rfl
  have HB := Lib.hid (hB0.keep hk2)
  have HI := Lib.hid (HI0.out.keep hk2)
  obtain ⟨tb, htb⟩ : ∃ b, b = w0.heap.size := ⟨_, rfl⟩
  rw [← htb] at q0 q1 ⊢
  have HQ := Lib.hid (fun (wx : World) (k : All (w0.alloc (.cells #[.string p, .string q] 101)) wx) => And.intro (k.cell q0 trivial) (k.cell q1 trivial))
  have hkk := hk1.trans hk2
  clear htb hpb q0 q1 hB0 HI0 hk1 hk2
  generalize w0.alloc (.cells #[.string p, .string q] 101) = w1 at *
  refine (isOpen_any _ _ _ a3 l3 c3 b.turns p n _ HI.out.turns HI.out.n3 rfl rfl rfl).mono ?_
  rintro e w2 ⟨rfl, hw2⟩
  obtain ⟨io, hio⟩ : ∃ x, x = openAt b.turns p n := ⟨_, rfl⟩
  obtain ⟨ib, hib⟩ : ∃ x, x = inP b.barred p q := ⟨_, rfl⟩
  obtain ⟨ih, hih⟩ : ∃ x, x = memB q b.heads := ⟨_, rfl⟩
  obtain ⟨ip, hip⟩ : ∃ x, x = inP b.pairs p q := ⟨_, rfl⟩
  have HM := Lib.hid (show mayB b p q n = (io && !ib && (ih || ip)) from by rw [mayB, hio, hib, hih, hip])
  have HIB := Lib.hid hib
  have HIH := Lib.hid hih
  have HIP := Lib.hid hip
  rw [← hio]
  clear hio hib hih hip
  obtain ⟨e0, e1, e2, e3⟩ := HB.out.keep hw2
  obtain ⟨q0, q1⟩ := HQ.out _ hw2
  cases io with
  | false =>
    go_wp2_with fail
    go_ret
    exact ⟨by rw [HM.out]; rfl, hkk.trans hw2⟩
  | true =>
    go_wp2_with fail
    refine (isIn_any a1 l1 c1 b.barred ⟨p, q, hp, hq⟩ _ (HI.out.keep hw2).barred HI.out.n1 HR1.out).mono ?_
    rintro e w3 ⟨he3, hw3⟩
    rw [show inP b.barred (Pair2.mk p q hp hq).paper (Pair2.mk p q hp hq).person = ib from HIB.out.symm] at he3
    subst he3
    have hw13 := hw2.trans hw3
    clear e0 e1 e2 e3 q0 q1
    obtain ⟨e0, e1, e2, e3⟩ := HB.out.keep hw13
    obtain ⟨q0, q1⟩ := HQ.out _ hw13
    cases ib with
    | true =>
      go_wp2_with fail
      go_ret
      exact ⟨by rw [HM.out]; rfl, hkk.trans hw13⟩
    | false =>
      go_wp2_with fail
      refine (contains_any a2 l2 c2 b.heads q _ (HI.out.keep hw13).heads HI.out.n2).mono ?_
      rintro e w' ⟨rfl, hh⟩
      subst hh
      rw [← HIH.out]
      cases ih with
      | true =>
        go_wp2_with fail
        go_ret
        exact ⟨by rw [HM.out]; rfl, hkk.trans hw13⟩
      | false =>
        go_wp2_with fail
        refine (isIn_any a0 l0 c0 b.pairs ⟨p, q, hp, hq⟩ _ (HI.out.keep hw13).pairs HI.out.n0 HR0.out).mono ?_
        rintro e w4 ⟨he4, hw4⟩
        rw [show inP b.pairs (Pair2.mk p q hp hq).paper (Pair2.mk p q hp hq).person = ip from HIP.out.symm] at he4
        subst he4
        go_wp2_with fail
        go_ret
        exact ⟨by rw [HM.out]; rfl, (hkk.trans hw13).trans hw4⟩

theorem boardF_rises {b : Board4} (h : boardF b = 0) : b.pairs.Pairwise ltPP ∧ b.barred.Pairwise ltPP := by
  by_cases h1 : pairsF b.pairs = 0
  · by_cases h2 : pairsF b.barred = 0
    · exact ⟨(pairsF_rises h1).2, (pairsF_rises h2).2⟩
    · rw [boardF_2 h1 h2] at h; exact absurd h h2
  · rw [boardF_1 h1] at h; exact absurd h h1

end Go.Proofs.YtllkemadaemjeaaGreatDoor
