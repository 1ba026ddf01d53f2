/- isOpen, may, Open, May. -/
import Derived.Test.YtiecaedgphdfdaaGreatDoorBf
import Derived.Test.YtiecaedgphdfdaaGreatDoorKc
namespace Go.Proofs.YtiecaedgphdfdaaGreatDoor
open Go.RowKit

set_option maxRecDepth 100000 in
set_option maxHeartbeats 3200000 in
theorem isOpen_any (v0 v1 v2 : Value) (a3 : Option Addr) (l3 c3 : Nat) (xs : List Turn3) (p : ByteArray) (n : Int) (w : World) (hs : Sl RTurn 3 (fun _ => True) w a3 l3 xs) (hl : l3 ≤ 1000000) (_o0 : v0.oneCell' = true) (_o1 : v1.oneCell' = true) (_o2 : v2.oneCell' = true) :
    Calls Tryz.prog 90 #[.agg #[v0, v1, v2, .slice a3 l3 c3], .string p, .int .i64 n] w fun e w' => e = .returned (.bool (openAt xs p n)) ∧ All w w' := by
  have hk1 : All w (w.alloc (.cells #[v0, v1, v2, .slice a3 l3 c3] 85)) := Kept.alloc _ _ _
  have hblk := heap_at w (.cells #[v0, v1, v2, .slice a3 l3 c3] 85) _ rfl
  have e3 := cell_at (i := 3) hblk rfl
  have Hlen := Lib.hid hs.len
  have HT := Lib.hid (fun (wx : World) (k : All (w.alloc (.cells #[v0, v1, v2, .slice a3 l3 c3] 85)) wx) => hs.keep RTurn.ok (hk1.trans k))
  clear hblk hs
  go_enter Tryz.func90, Tryz.ntmps90
  go_wp2_with fail
  generalize w.alloc (.cells #[v0, v1, v2, .slice a3 l3 c3] 85) = w1 at *
  go_loopw [7, 13] (fun o j wr => ∃ m : Nat, m ≤ l3 ∧ j = .int .i64 m ∧ o = .bool (openAt (xs.take m) p n) ∧ All w1 wr) (fun _ j _ => l3 - (intOf j).toNat)
  case atStart => exact ⟨0, Nat.zero_le _, rfl, rfl, Kept.refl _ _⟩
  case round =>
    obtain ⟨m, hm, rfl, rfl, hwm⟩ := hrel
    obtain ⟨wn, rfl⟩ : ∃ y : World, y = wr := ⟨_, rfl⟩
    clear e3
    by_cases hmk : m < l3
    · obtain ⟨bq, oq, y, haq, -, p0, p1, p2, -, -, -, hyt⟩ := (HT.out _ hwm).atTurn (k := m) hmk
      subst haq
      have HYT := Lib.hid hyt
      have hblk := heap_at wn (.cells #[.int .i64 y.tm, .string y.paper, .bool y.op] 152) _ rfl
      have q0 := cell_at (i := 0) hblk rfl
      have q1 := cell_at (i := 1) hblk rfl
      have q2 := cell_at (i := 2) hblk rfl
      have hkn : All wn (wn.alloc (.cells #[.int .i64 y.tm, .string y.paper, .bool y.op] 152)) := Kept.alloc _ _ _
      clear hyt hblk
      by_cases hyx : y.paper = p
      · have d : (y.paper.toList == p.toList) = true := by simp [hyx]
        by_cases htm : y.tm ≤ n
        · have d2 : decide (y.tm ≤ n) = true := by simpa using htm
          have HL := Lib.hid (show openAt (xs.take (m + 1)) p n = y.op from by rw [HYT.out, openAt_snoc, if_pos ⟨hyx, htm⟩])
          clear hyx htm
          go_wp2_with fail
          go_roundw
          case rel => exact ⟨m + 1, by omega, by go_num, by rw [HL.out], hwm.trans hkn⟩
          case measure => simp [intOf]; omega
        · have d2 : decide (y.tm ≤ n) = false := by simpa using htm
          have HL := Lib.hid (show openAt (xs.take (m + 1)) p n = openAt (xs.take m) p n from by rw [HYT.out, openAt_snoc, if_neg (fun h => htm h.2)])
          clear hyx htm
          go_wp2_with fail
          go_roundw
          case rel => exact ⟨m + 1, by omega, by go_num, by rw [HL.out], hwm.trans hkn⟩
          case measure => simp [intOf]; omega
      · have d : (y.paper.toList == p.toList) = false := bytes_ne hyx
        have HL := Lib.hid (show openAt (xs.take (m + 1)) p n = openAt (xs.take m) p n from by rw [HYT.out, openAt_snoc, if_neg (fun h => hyx h.1)])
        clear hyx
        go_wp2_with fail
        go_roundw
        case rel => exact ⟨m + 1, by omega, by go_num, by rw [HL.out], hwm.trans hkn⟩
        case measure => simp [intOf]; omega
    · have hdm2 : decide ((m : Int) < (l3 : Int)) = false := by simp; omega
      have HL := Lib.hid (show openAt (xs.take m) p n = openAt xs p n from by rw [List.take_of_length_le (by have := Hlen.out; omega)])
      rw [HL.out]
      go_wp2_with fail
      go_ret
      exact ⟨rfl, hk1.trans hwm⟩

set_option maxRecDepth 100000 in
set_option maxHeartbeats 3200000 in
theorem may_any (a0 : Option Addr) (l0 c0 : Nat) (a1 : Option Addr) (l1 c1 : Nat) (a2 : Option Addr) (l2 c2 : Nat) (a3 : Option Addr) (l3 c3 : Nat) (b : Board4) (p q : ByteArray) (n : Int) (w : World) (h : BoardIs w a0 l0 a1 l1 a2 l2 a3 l3 b) (hp : p.size ≤ 1000000) (hq : q.size ≤ 1000000) (hr0 : b.pairs.Pairwise ltPP) (hr1 : b.barred.Pairwise ltPP) :
    Calls Tryz.prog 91 #[.agg #[.slice a0 l0 c0, .slice a1 l1 c1, .slice a2 l2 c2, .slice a3 l3 c3], .string p, .string q, .int .i64 n] w fun e w' => e = .returned (.bool (mayB b p q n)) ∧ All w w' := by
  have hk1 : All w (w.alloc (.cells #[.slice a0 l0 c0, .slice a1 l1 c1, .slice a2 l2 c2, .slice a3 l3 c3] 85)) := Kept.alloc _ _ _
  have hblk := heap_at w (.cells #[.slice a0 l0 c0, .slice a1 l1 c1, .slice a2 l2 c2, .slice a3 l3 c3] 85) _ rfl
  have hB0 : BoardAt w.heap.size (.slice a0 l0 c0) (.slice a1 l1 c1) (.slice a2 l2 c2) (.slice a3 l3 c3) (w.alloc (.cells #[.slice a0 l0 c0, .slice a1 l1 c1, .slice a2 l2 c2, .slice a3 l3 c3] 85)) := ⟨cell_at (i := 0) hblk rfl, cell_at (i := 1) hblk rfl, cell_at (i := 2) hblk rfl, cell_at (i := 3) hblk rfl⟩
  have Hsz := Lib.hid (show w.heap.size + 1 = (w.alloc (.cells #[.slice a0 l0 c0, .slice a1 l1 c1, .slice a2 l2 c2, .slice a3 l3 c3] 85)).heap.size by simp)
  obtain ⟨bb, hbb⟩ : ∃ b, b = w.heap.size := ⟨_, rfl⟩
  have Hbb := Lib.hid hbb
  rw [← hbb] at hB0
  have HI0 := Lib.hid (h.keep hk1)
  have HR0 := Lib.hid hr0
  have HR1 := Lib.hid hr1
  clear hbb hblk h hr0 hr1
  go_enter Tryz.func91, Tryz.ntmps91
  go_wp2_with fail
  simp only [Hsz.out]
  simp only [← Hbb.out]
  clear Hsz Hbb
  generalize w.alloc (.cells #[.slice a0 l0 c0, .slice a1 l1 c1, .slice a2 l2 c2, .slice a3 l3 c3] 85) = w0 at *
  have hk2 : All w0 (w0.alloc (.cells #[.string p, .string q] 95)) := Kept.alloc _ _ _
  have hpb := heap_at w0 (.cells #[.string p, .string q] 95) _ rfl
  have q0 := cell_at (i := 0) hpb rfl
  have q1 := cell_at (i := 1) hpb rfl
  have HB := Lib.hid (hB0.keep hk2)
  have HI := Lib.hid (HI0.out.keep hk2)
  obtain ⟨tb, htb⟩ : ∃ b, b = w0.heap.size := ⟨_, rfl⟩
  rw [← htb] at q0 q1 ⊢
  have HQ := Lib.hid (fun (wx : World) (k : All (w0.alloc (.cells #[.string p, .string q] 95)) wx) => And.intro (k.cell q0 trivial) (k.cell q1 trivial))
  have hkk := hk1.trans hk2
  clear htb hpb q0 q1 hB0 HI0 hk1 hk2
  generalize w0.alloc (.cells #[.string p, .string q] 95) = w1 at *
  refine (isOpen_any _ _ _ a3 l3 c3 b.turns p n _ HI.out.turns HI.out.n3 rfl rfl rfl).mono ?_
  rintro e w2 ⟨rfl, hw2⟩
  obtain ⟨io, hio⟩ : ∃ x, x = openAt b.turns p n := ⟨_, rfl⟩
  obtain ⟨ib, hib⟩ : ∃ x, x = inP b.barred p q := ⟨_, rfl⟩
  obtain ⟨ih, hih⟩ : ∃ x, x = memB q b.heads := ⟨_, rfl⟩
  obtain ⟨ip, hip⟩ : ∃ x, x = inP b.pairs p q := ⟨_, rfl⟩
  have HM := Lib.hid (show mayB b p q n = (io && !ib && (ih || ip)) from by rw [mayB, hio, hib, hih, hip])
  have HIB := Lib.hid hib
  have HIH := Lib.hid hih
  have HIP := Lib.hid hip
  rw [← hio]
  clear hio hib hih hip
  obtain ⟨e0, e1, e2, e3⟩ := HB.out.keep hw2
  obtain ⟨q0, q1⟩ := HQ.out _ hw2
  cases io with
  | false =>
    go_wp2_with fail
    go_ret
    exact ⟨by rw [HM.out]; rfl, hkk.trans hw2⟩
  | true =>
    go_wp2_with fail
    refine (isIn_any a1 l1 c1 b.barred ⟨p, q, hp, hq⟩ _ (HI.out.keep hw2).barred HI.out.n1 HR1.out).mono ?_
    rintro e w3 ⟨he3, hw3⟩
    rw [show inP b.barred (Pair2.mk p q hp hq).paper (Pair2.mk p q hp hq).person = ib from HIB.out.symm] at he3
    subst he3
    have hw13 := hw2.trans hw3
    clear e0 e1 e2 e3 q0 q1
    obtain ⟨e0, e1, e2, e3⟩ := HB.out.keep hw13
    obtain ⟨q0, q1⟩ := HQ.out _ hw13
    cases ib with
    | true =>
      go_wp2_with fail
      go_ret
      exact ⟨by rw [HM.out]; rfl, hkk.trans hw13⟩
    | false =>
      go_wp2_with fail
      refine (contains_any a2 l2 c2 b.heads q _ (HI.out.keep hw13).heads HI.out.n2).mono ?_
      rintro e w' ⟨rfl, hh⟩
      subst hh
      rw [← HIH.out]
      cases ih with
      | true =>
        go_wp2_with fail
        go_ret
        exact ⟨by rw [HM.out]; rfl, hkk.trans hw13⟩
      | false =>
        go_wp2_with fail
        refine (isIn_any a0 l0 c0 b.pairs ⟨p, q, hp, hq⟩ _ (HI.out.keep hw13).pairs HI.out.n0 HR0.out).mono ?_
        rintro e w4 ⟨he4, hw4⟩
        rw [show inP b.pairs (Pair2.mk p q hp hq).paper (Pair2.mk p q hp hq).person = ip from HIP.out.symm] at he4
        subst he4
        go_wp2_with fail
        go_ret
        exact ⟨by rw [HM.out]; rfl, (hkk.trans hw13).trans hw4⟩

noncomputable def openE (b : Board4) (p : ByteArray) (n : Int) : Int := if boardF b ≠ 0 then boardF b else if isKeyB p = false then 5 else if n < 0 ∨ 5761440 ≤ n then 1 else 0
noncomputable def mayE (b : Board4) (p q : ByteArray) (n : Int) : Int := if boardF b ≠ 0 then boardF b else if isKeyB p = false then 5 else if isKeyB q = false then 5 else if n < 0 ∨ 5761440 ≤ n then 1 else 0
noncomputable def openV (b : Board4) (p : ByteArray) (n : Int) : Bool := if openE b p n = 0 then openAt b.turns p n else false
noncomputable def mayV (b : Board4) (p q : ByteArray) (n : Int) : Bool := if mayE b p q n = 0 then mayB b p q n else false
theorem ret_bi {a b : Bool} {c d : Int} (h : a = b) (h2 : c = d) : Ending.returned (.tuple #[.bool a, .int .i64 c]) = .returned (.tuple #[.bool b, .int .i64 d]) := by rw [h, h2]
theorem boardF_rises {b : Board4} (h : boardF b = 0) : b.pairs.Pairwise ltPP ∧ b.barred.Pairwise ltPP := by
  by_cases h1 : pairsF b.pairs = 0
  · by_cases h2 : pairsF b.barred = 0
    · exact ⟨(pairsF_rises h1).2, (pairsF_rises h2).2⟩
    · rw [boardF_2 h1 h2] at h; exact absurd h h2
  · rw [boardF_1 h1] at h; exact absurd h h1

set_option maxRecDepth 100000 in
set_option maxHeartbeats 3200000 in
theorem open_any (a0 : Option Addr) (l0 c0 : Nat) (a1 : Option Addr) (l1 c1 : Nat) (a2 : Option Addr) (l2 c2 : Nat) (a3 : Option Addr) (l3 c3 : Nat) (b : Board4) (p : ByteArray) (n : Int) (w : World) (h : BoardIs w a0 l0 a1 l1 a2 l2 a3 l3 b) (hp : p.size ≤ 1000000) :
    Calls Tryz.prog 42 #[.agg #[.slice a0 l0 c0, .slice a1 l1 c1, .slice a2 l2 c2, .slice a3 l3 c3], .string p, .int .i64 n] w fun e w' => e = .returned (.tuple #[.bool (openV b p n), .int .i64 (openE b p n)]) ∧ All w w' := by
  have hk1 : All w (w.alloc (.cells #[.slice a0 l0 c0, .slice a1 l1 c1, .slice a2 l2 c2, .slice a3 l3 c3] 85)) := Kept.alloc _ _ _
  have hblk := heap_at w (.cells #[.slice a0 l0 c0, .slice a1 l1 c1, .slice a2 l2 c2, .slice a3 l3 c3] 85) _ rfl
  have hB0 : BoardAt w.heap.size (.slice a0 l0 c0) (.slice a1 l1 c1) (.slice a2 l2 c2) (.slice a3 l3 c3) (w.alloc (.cells #[.slice a0 l0 c0, .slice a1 l1 c1, .slice a2 l2 c2, .slice a3 l3 c3] 85)) := ⟨cell_at (i := 0) hblk rfl, cell_at (i := 1) hblk rfl, cell_at (i := 2) hblk rfl, cell_at (i := 3) hblk rfl⟩
  obtain ⟨bb, hbb⟩ : ∃ b, b = w.heap.size := ⟨_, rfl⟩
  have Hbb := Lib.hid hbb
  rw [← hbb] at hB0
  have HI := Lib.hid (h.keep hk1)
  have HB := Lib.hid hB0
  clear hbb hblk h hB0
  obtain ⟨er, her⟩ : ∃ e, e = openE b p n := ⟨_, rfl⟩
  obtain ⟨ov, hov⟩ : ∃ e, e = openV b p n := ⟨_, rfl⟩
  obtain ⟨f, hf⟩ : ∃ e, e = boardF b := ⟨_, rfl⟩
  have HER := Lib.hid her
  have HOV := Lib.hid hov
  have HF := Lib.hid hf
  rw [← her, ← hov]
  have e0 := HB.out.1
  have e1 := HB.out.2.1
  have e2 := HB.out.2.2.1
  have e3 := HB.out.2.2.2
  clear her hov hf
  go_enter Tryz.func42, Tryz.ntmps42
  go_wp2_with fail
  simp only [← Hbb.out]
  clear Hbb e0 e1 e2 e3
  generalize w.alloc (.cells #[.slice a0 l0 c0, .slice a1 l1 c1, .slice a2 l2 c2, .slice a3 l3 c3] 85) = w1 at *
  refine (checkBoard_any a0 l0 c0 a1 l1 c1 a2 l2 c2 a3 l3 c3 b _ HI.out).mono ?_
  rintro e w2 ⟨rfl, hw2⟩
  rw [← HF.out]
  obtain ⟨e0, e1, e2, e3⟩ := HB.out.keep hw2
  by_cases hf0 : f = 0
  · subst hf0
    cases hky : isKeyB p with
    | false =>
      have H1 := Lib.hid (show er = 5 from by rw [HER.out, openE, if_neg (by simp [← HF.out]), if_pos hky])
      have H2 := Lib.hid (show ov = false from by rw [HOV.out, openV, if_neg (by rw [← HER.out, H1.out]; decide)])
      go_wp2_with fail
      refine (isKey_any _ _ (by omega)).mono ?_
      rintro e w' ⟨rfl, hh⟩
      subst hh
      rw [hky]
      go_wp2_with fail
      go_ret2
      exact ⟨ret_bi H2.out.symm H1.out.symm, hk1.trans hw2⟩
    | true =>
      by_cases hm : n < 0 ∨ 5761440 ≤ n
      · have hdm : decide (0 ≤ n ∧ n < 5761440) = false := decide_eq_false (by omega)
        have H1 := Lib.hid (show er = 1 from by rw [HER.out, openE, if_neg (by simp [← HF.out]), if_neg (by simp [hky]), if_pos hm])
        have H2 := Lib.hid (show ov = false from by rw [HOV.out, openV, if_neg (by rw [← HER.out, H1.out]; decide)])
        clear hm
        go_wp2_with fail
        refine (isKey_any _ _ (by omega)).mono ?_
        rintro e w' ⟨rfl, hh⟩
        subst hh
        rw [hky]
        go_wp2_with fail
        refine (isMoment_any _ _).mono ?_
        rintro e w' ⟨rfl, hh⟩
        subst hh
        rw [hdm]
        go_wp2_with fail
        go_ret2
        exact ⟨ret_bi H2.out.symm H1.out.symm, hk1.trans hw2⟩
      · have hdm : decide (0 ≤ n ∧ n < 5761440) = true := decide_eq_true (by omega)
        have H1 := Lib.hid (show er = 0 from by rw [HER.out, openE, if_neg (by simp [← HF.out]), if_neg (by simp [hky]), if_neg hm])
        have H2 := Lib.hid (show ov = openAt b.turns p n from by rw [HOV.out, openV, if_pos (by rw [← HER.out, H1.out])])
        clear hm
        go_wp2_with fail
        refine (isKey_any _ _ (by omega)).mono ?_
        rintro e w' ⟨rfl, hh⟩
        subst hh
        rw [hky]
        go_wp2_with fail
        refine (isMoment_any _ _).mono ?_
        rintro e w' ⟨rfl, hh⟩
        subst hh
        rw [hdm]
        go_wp2_with fail
        refine (isOpen_any _ _ _ a3 l3 c3 b.turns p n _ (HI.out.keep hw2).turns HI.out.n3 rfl rfl rfl).mono ?_
        rintro e w3 ⟨rfl, hw3⟩
        rw [← H2.out]
        go_wp2_with fail
        go_ret2
        exact ⟨ret_bi rfl H1.out.symm, (hk1.trans hw2).trans hw3⟩
  · have hne : (f != 0) = true := by simpa using hf0
    have H1 := Lib.hid (show er = f from by rw [HER.out, openE, if_pos (by rw [← HF.out]; exact hf0), HF.out])
    have H2 := Lib.hid (show ov = false from by rw [HOV.out, openV, if_neg (by rw [← HER.out, H1.out]; exact hf0)])
    clear hf0
    go_wp2_with fail
    go_ret2
    exact ⟨ret_bi H2.out.symm H1.out.symm, hk1.trans hw2⟩

set_option maxRecDepth 100000 in
set_option maxHeartbeats 3200000 in
theorem mayOpen_any (a0 : Option Addr) (l0 c0 : Nat) (a1 : Option Addr) (l1 c1 : Nat) (a2 : Option Addr) (l2 c2 : Nat) (a3 : Option Addr) (l3 c3 : Nat) (b : Board4) (p q : ByteArray) (n : Int) (w : World) (h : BoardIs w a0 l0 a1 l1 a2 l2 a3 l3 b) (hp : p.size ≤ 1000000) (hq : q.size ≤ 1000000) :
    Calls Tryz.prog 43 #[.agg #[.slice a0 l0 c0, .slice a1 l1 c1, .slice a2 l2 c2, .slice a3 l3 c3], .string p, .string q, .int .i64 n] w fun e w' => e = .returned (.tuple #[.bool (mayV b p q n), .int .i64 (mayE b p q n)]) ∧ All w w' := by
  have hk1 : All w (w.alloc (.cells #[.slice a0 l0 c0, .slice a1 l1 c1, .slice a2 l2 c2, .slice a3 l3 c3] 85)) := Kept.alloc _ _ _
  have hblk := heap_at w (.cells #[.slice a0 l0 c0, .slice a1 l1 c1, .slice a2 l2 c2, .slice a3 l3 c3] 85) _ rfl
  have hB0 : BoardAt w.heap.size (.slice a0 l0 c0) (.slice a1 l1 c1) (.slice a2 l2 c2) (.slice a3 l3 c3) (w.alloc (.cells #[.slice a0 l0 c0, .slice a1 l1 c1, .slice a2 l2 c2, .slice a3 l3 c3] 85)) := ⟨cell_at (i := 0) hblk rfl, cell_at (i := 1) hblk rfl, cell_at (i := 2) hblk rfl, cell_at (i := 3) hblk rfl⟩
  obtain ⟨bb, hbb⟩ : ∃ b, b = w.heap.size := ⟨_, rfl⟩
  have Hbb := Lib.hid hbb
  rw [← hbb] at hB0
  have HI := Lib.hid (h.keep hk1)
  have HB := Lib.hid hB0
  clear hbb hblk h hB0
  obtain ⟨er, her⟩ : ∃ e, e = mayE b p q n := ⟨_, rfl⟩
  obtain ⟨ov, hov⟩ : ∃ e, e = mayV b p q n := ⟨_, rfl⟩
  obtain ⟨f, hf⟩ : ∃ e, e = boardF b := ⟨_, rfl⟩
  have HER := Lib.hid her
  have HOV := Lib.hid hov
  have HF := Lib.hid hf
  rw [← her, ← hov]
  have e0 := HB.out.1
  have e1 := HB.out.2.1
  have e2 := HB.out.2.2.1
  have e3 := HB.out.2.2.2
  clear her hov hf
  go_enter Tryz.func43, Tryz.ntmps43
  go_wp2_with fail
  simp only [← Hbb.out]
  clear Hbb e0 e1 e2 e3
  generalize w.alloc (.cells #[.slice a0 l0 c0, .slice a1 l1 c1, .slice a2 l2 c2, .slice a3 l3 c3] 85) = w1 at *
  refine (checkBoard_any a0 l0 c0 a1 l1 c1 a2 l2 c2 a3 l3 c3 b _ HI.out).mono ?_
  rintro e w2 ⟨rfl, hw2⟩
  rw [← HF.out]
  obtain ⟨e0, e1, e2, e3⟩ := HB.out.keep hw2
  by_cases hf0 : f = 0
  · subst hf0
    have HRI := Lib.hid (boardF_rises HF.out.symm)
    cases hky : isKeyB p with
    | false =>
      have H1 := Lib.hid (show er = 5 from by rw [HER.out, mayE, if_neg (by simp [← HF.out]), if_pos hky])
      have H2 := Lib.hid (show ov = false from by rw [HOV.out, mayV, if_neg (by rw [← HER.out, H1.out]; decide)])
      go_wp2_with fail
      refine (isKey_any _ _ (by omega)).mono ?_
      rintro e w' ⟨rfl, hh⟩
      subst hh
      rw [hky]
      go_wp2_with fail
      go_ret2
      exact ⟨ret_bi H2.out.symm H1.out.symm, hk1.trans hw2⟩
    | true =>
      cases hky2 : isKeyB q with
      | false =>
        have H1 := Lib.hid (show er = 5 from by rw [HER.out, mayE, if_neg (by simp [← HF.out]), if_neg (by simp [hky]), if_pos hky2])
        have H2 := Lib.hid (show ov = false from by rw [HOV.out, mayV, if_neg (by rw [← HER.out, H1.out]; decide)])
        go_wp2_with fail
        refine (isKey_any p _ (by omega)).mono ?_
        rintro e w' ⟨rfl, hh⟩
        subst hh
        rw [hky]
        go_wp2_with fail
        refine (isKey_any q _ (by omega)).mono ?_
        rintro e w' ⟨rfl, hh⟩
        subst hh
        rw [hky2]
        go_wp2_with fail
        go_ret2
        exact ⟨ret_bi H2.out.symm H1.out.symm, hk1.trans hw2⟩
      | true =>
        by_cases hm : n < 0 ∨ 5761440 ≤ n
        · have hdm : decide (0 ≤ n ∧ n < 5761440) = false := decide_eq_false (by omega)
          have H1 := Lib.hid (show er = 1 from by rw [HER.out, mayE, if_neg (by simp [← HF.out]), if_neg (by simp [hky]), if_neg (by simp [hky2]), if_pos hm])
          have H2 := Lib.hid (show ov = false from by rw [HOV.out, mayV, if_neg (by rw [← HER.out, H1.out]; decide)])
          clear hm
          go_wp2_with fail
          refine (isKey_any p _ (by omega)).mono ?_
          rintro e w' ⟨rfl, hh⟩
          subst hh
          rw [hky]
          go_wp2_with fail
          refine (isKey_any q _ (by omega)).mono ?_
          rintro e w' ⟨rfl, hh⟩
          subst hh
          rw [hky2]
          go_wp2_with fail
          refine (isMoment_any _ _).mono ?_
          rintro e w' ⟨rfl, hh⟩
          subst hh
          rw [hdm]
          go_wp2_with fail
          go_ret2
          exact ⟨ret_bi H2.out.symm H1.out.symm, hk1.trans hw2⟩
        · have hdm : decide (0 ≤ n ∧ n < 5761440) = true := decide_eq_true (by omega)
          have H1 := Lib.hid (show er = 0 from by rw [HER.out, mayE, if_neg (by simp [← HF.out]), if_neg (by simp [hky]), if_neg (by simp [hky2]), if_neg hm])
          have H2 := Lib.hid (show ov = mayB b p q n from by rw [HOV.out, mayV, if_pos (by rw [← HER.out, H1.out])])
          clear hm
          go_wp2_with fail
          refine (isKey_any p _ (by omega)).mono ?_
          rintro e w' ⟨rfl, hh⟩
          subst hh
          rw [hky]
          go_wp2_with fail
          refine (isKey_any q _ (by omega)).mono ?_
          rintro e w' ⟨rfl, hh⟩
          subst hh
          rw [hky2]
          go_wp2_with fail
          refine (isMoment_any _ _).mono ?_
          rintro e w' ⟨rfl, hh⟩
          subst hh
          rw [hdm]
          go_wp2_with fail
          refine (may_any a0 l0 c0 a1 l1 c1 a2 l2 c2 a3 l3 c3 b p q n _ (HI.out.keep hw2) hp hq HRI.out.1 HRI.out.2).mono ?_
          rintro e w3 ⟨rfl, hw3⟩
          rw [← H2.out]
          go_wp2_with fail
          go_ret2
          exact ⟨ret_bi rfl H1.out.symm, (hk1.trans hw2).trans hw3⟩
  · have hne : (f != 0) = true := by simpa using hf0
    have H1 := Lib.hid (show er = f from by rw [HER.out, mayE, if_pos (by rw [← HF.out]; exact hf0), HF.out])
    have H2 := Lib.hid (show ov = false from by rw [HOV.out, mayV, if_neg (by rw [← HER.out, H1.out]; exact hf0)])
    clear hf0
    go_wp2_with fail
    go_ret2
    exact ⟨ret_bi H2.out.symm H1.out.symm, hk1.trans hw2⟩
end Go.Proofs.YtiecaedgphdfdaaGreatDoor
