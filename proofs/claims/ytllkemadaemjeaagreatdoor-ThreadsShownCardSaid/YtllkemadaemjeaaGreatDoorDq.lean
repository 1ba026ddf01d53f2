/- postFault, of the program and of the reference. -/
import Derived.Test.YtllkemadaemjeaaGreatDoorDp
import Derived.Test.YtllkemadaemjeaaGreatDoorDh
import Derived.Test.YtllkemadaemjeaaGreatDoorBk
import Derived.Test.YtllkemadaemjeaaGreatDoorBh
namespace Go.Proofs.YtllkemadaemjeaaGreatDoor
open Go.RowKit

set_option maxRecDepth 100000 in
set_option maxHeartbeats 12800000 in
theorem postFault_any (a0 : Option Addr) (l0 c0 : Nat) (a1 : Option Addr) (l1 c1 : Nat) (a2 : Option Addr) (l2 c2 : Nat) (a3 : Option Addr) (l3 c3 : Nat) (b : Board4) (a : Option Addr) (len cap : Nat) (pre : List Post6) (no tm : Int) (paper person : ByteArray) (ans : Int) (words : ByteArray) (w : World) (h : BoardIs w a0 l0 a1 l1 a2 l2 a3 l3 b) (hr0 : b.pairs.Pairwise ltPP) (hr1 : b.barred.Pairwise ltPP) (hs : Sl RPost 6 (fun _ => True) w a len pre) (hl : len ≤ 1000000) (hp : PostSmall ⟨no, tm, paper, person, ans, words⟩) (hg : Tabs w) :
    Calls Tryz.prog 69 #[.agg #[.slice a0 l0 c0, .slice a1 l1 c1, .slice a2 l2 c2, .slice a3 l3 c3], .slice a len cap, .agg #[.int .i64 no, .int .i64 tm, .string paper, .string person, .int .i64 ans, .string words]] w fun e w' => e = .returned (.int .i64 (postF b pre ⟨no, tm, paper, person, ans, words⟩)) ∧ All w w' := by
  obtain ⟨hp1, hp2, hp3⟩ := hp
  dsimp only at hp1 hp2 hp3
  have hk1 : All w ((w.alloc (.cells #[.slice a0 l0 c0, .slice a1 l1 c1, .slice a2 l2 c2, .slice a3 l3 c3] 50)).alloc (.cells #[.int .i64 no, .int .i64 tm, .string paper, .string person, .int .i64 ans, .string words] 58)) := (Kept.alloc _ _ _).then_alloc _
  have hB := heap_old (.cells #[.int .i64 no, .int .i64 tm, .string paper, .string person, .int .i64 ans, .string words] 58) (heap_at w (.cells #[.slice a0 l0 c0, .slice a1 l1 c1, .slice a2 l2 c2, .slice a3 l3 c3] 50) _ rfl)
  have hP := heap_at (w.alloc (.cells #[.slice a0 l0 c0, .slice a1 l1 c1, .slice a2 l2 c2, .slice a3 l3 c3] 50)) (.cells #[.int .i64 no, .int .i64 tm, .string paper, .string person, .int .i64 ans, .string words] 58) _ rfl
  have Hlen := Lib.hid hs.len
  have HI := Lib.hid (fun (wx : World) (k : All ((w.alloc (.cells #[.slice a0 l0 c0, .slice a1 l1 c1, .slice a2 l2 c2, .slice a3 l3 c3] 50)).alloc (.cells #[.int .i64 no, .int .i64 tm, .string paper, .string person, .int .i64 ans, .string words] 58)) wx) => h.keep (hk1.trans k))
  have HS := Lib.hid (fun (wx : World) (k : All ((w.alloc (.cells #[.slice a0 l0 c0, .slice a1 l1 c1, .slice a2 l2 c2, .slice a3 l3 c3] 50)).alloc (.cells #[.int .i64 no, .int .i64 tm, .string paper, .string person, .int .i64 ans, .string words] 58)) wx) => hs.keep RPost.ok (hk1.trans k))
  have HG := Lib.hid (fun (wx : World) (k : All ((w.alloc (.cells #[.slice a0 l0 c0, .slice a1 l1 c1, .slice a2 l2 c2, .slice a3 l3 c3] 50)).alloc (.cells #[.int .i64 no, .int .i64 tm, .string paper, .string person, .int .i64 ans, .string words] 58)) wx) => hg.keep (hk1.trans k))
  have HC := Lib.hid (fun (wx : World) (k : All ((w.alloc (.cells #[.slice a0 l0 c0, .slice a1 l1 c1, .slice a2 l2 c2, .slice a3 l3 c3] 50)).alloc (.cells #[.int .i64 no, .int .i64 tm, .string paper, .string person, .int .i64 ans, .string words] 58)) wx) => (⟨k.cell (cell_at (i := 0) hB rfl) trivial, k.cell (cell_at (i := 1) hB rfl) trivial, k.cell (cell_at (i := 2) hB rfl) trivial, k.cell (cell_at (i := 3) hB rfl) trivial, k.cell (cell_at (i := 0) hP rfl) trivial, k.cell (cell_at (i := 1) hP rfl) trivial, k.cell (cell_at (i := 2) hP rfl) trivial, k.cell (cell_at (i := 3) hP rfl) trivial, k.cell (cell_at (i := 4) hP rfl) trivial, k.cell (cell_at (i := 5) hP rfl) trivial⟩ : _ ∧ _ ∧ _ ∧ _ ∧ _ ∧ _ ∧ _ ∧ _ ∧ _ ∧ _))
  obtain ⟨bb, hbb⟩ : ∃ k, k = w.heap.size := ⟨_, rfl⟩
  obtain ⟨pb, hpb⟩ : ∃ k, k = (w.alloc (.cells #[.slice a0 l0 c0, .slice a1 l1 c1, .slice a2 l2 c2, .slice a3 l3 c3] 50)).heap.size := ⟨_, rfl⟩
  have hk3 : bb + 1 = pb := by rw [hpb, hbb]; simp
  have HBB := Lib.hid hbb
  have HK3 := Lib.hid hk3
  rw [← hbb, ← hpb] at HC
  obtain ⟨er, her⟩ : ∃ e, e = postF b pre ⟨no, tm, paper, person, ans, words⟩ := ⟨_, rfl⟩
  have HER := Lib.hid her
  rw [← her]
  obtain ⟨b0, b1, b2, b3, p0, p1, p2, p3, p4, p5⟩ := HC.out _ (Kept.refl _ _)
  clear hB hP h hs hg hbb hpb hk3 her
  by_cases hno : no = (len : Int) + 1
  · have dno : (no != (len : Int) + 1) = false := by simpa using hno
    have HNO := Lib.hid (show no = (pre.length : Int) + 1 by rw [hno]; have := Hlen.out; omega)
    clear hno
    go_enter Tryz.func69, Tryz.ntmps69
    go_wp2_with fail
    simp only [← HBB.out, HK3.out]
    generalize (w.alloc (.cells #[.slice a0 l0 c0, .slice a1 l1 c1, .slice a2 l2 c2, .slice a3 l3 c3] 50)).alloc (.cells #[.int .i64 no, .int .i64 tm, .string paper, .string person, .int .i64 ans, .string words] 58) = w1 at *
    by_cases htm : tm < 0 ∨ 5761440 ≤ tm
    · have HTM := Lib.hid htm
      refine (isMoment_any _ _).mono ?_
      rintro e w' ⟨rfl, hh⟩
      subst hh
      rw [show decide (0 ≤ tm ∧ tm < 5761440) = false from by simp; omega]
      clear htm
      have HF := Lib.hid (show er = _ from HER.out.trans (postF_arg HNO.out HTM.out))
      go_wp2_with fail
      go_ret
      exact ⟨ret_int' HF.out.symm, hk1⟩
    · have HW1 := Lib.hid (show PW1 pre ⟨no, tm, paper, person, ans, words⟩ from ⟨HNO.out, htm⟩)
      refine (isMoment_any _ _).mono ?_
      rintro e w' ⟨rfl, hh⟩
      subst hh
      rw [show decide (0 ≤ tm ∧ tm < 5761440) = true from by simp; omega]
      clear htm dno
      go_wp2_with fail
      go_upto_region 5 with fail
      go_cut [22] (fun v wx => v = .bool (earlierP pre.getLast? ⟨no, tm, paper, person, ans, words⟩) ∧ All w1 wx)
      case first =>
        rcases Nat.eq_zero_or_pos len with h0 | h0
        · subst h0
          have hx : pre = [] := List.eq_nil_of_length_eq_zero Hlen.out
          have HO := Lib.hid (show earlierP pre.getLast? ⟨no, tm, paper, person, ans, words⟩ = false by rw [hx]; rfl)
          have hgd : decide ((0 : Int) < ((0 : Nat) : Int)) = false := by simp
          clear hx
          go_quiet (fail)
          go_wp2_with fail
          go_meet
          exact ⟨by rw [HO.out], Kept.drewN _ _ _⟩
        · obtain ⟨kp, rfl⟩ : ∃ kp, len = kp + 1 := ⟨len - 1, by omega⟩
          obtain ⟨bq, oq, y, haq, -, -, q1, -, -, -, -, -, hy, -⟩ := (HS.out _ (Kept.refl _ _)).atPost (k := kp) (by omega)
          subst haq
          have HO := Lib.hid (earlierP_last (x := ⟨no, tm, paper, person, ans, words⟩) Hlen.out hy)
          have f1 : IntKind.i64.wrap (kp : Int) = (kp : Int) := IntWalk.i64_in _ (by omega)
          have f3 : (0 : Int) ≤ (kp : Int) := by omega
          have f4 : (kp : Int) < ((kp + 1 : Nat) : Int) := by omega
          have f5 : ((kp + 1 : Nat) : Int) - 1 = (kp : Int) := by omega
          clear hy
          go_quiet (fail)
          go_wp2_with fail
          go_meet
          exact ⟨by rw [HO.out], Kept.drewN _ _ _⟩
      case rest =>
        obtain ⟨rfl, hx⟩ := hcut
        obtain ⟨w2, rfl⟩ : ∃ y : World, y = wc := ⟨_, rfl⟩
        clear b0 b1 b2 b3 p0 p1 p2 p3 p4 p5
        obtain ⟨b0, b1, b2, b3, p0, p1, p2, p3, p4, p5⟩ := HC.out _ hx
        have hw2 := hk1.trans hx
        cases hor : earlierP pre.getLast? ⟨no, tm, paper, person, ans, words⟩ with
        | true =>
          have HO := Lib.hid hor
          have HF := Lib.hid (show er = _ from HER.out.trans (HW1.out.order HO.out))
          go_wp2_with fail
          go_ret
          exact ⟨ret_int' HF.out.symm, hw2⟩
        | false =>
          have HW2 := Lib.hid (show PW2 pre ⟨no, tm, paper, person, ans, words⟩ from ⟨HW1.out, hor⟩)
          clear hor
          cases hk1b : isKeyB paper with
          | false =>
            go_wp2_with fail
            refine (isKey_any paper _ (by omega)).mono ?_
            rintro e w' ⟨rfl, hh⟩
            subst hh
            rw [hk1b]
            have HF := Lib.hid (show er = _ from HER.out.trans (HW2.out.name hk1b))
            go_wp2_with fail
            go_ret
            exact ⟨ret_int' HF.out.symm, hw2⟩
          | true =>
            go_wp2_with fail
            refine (isKey_any paper _ (by omega)).mono ?_
            rintro e w' ⟨rfl, hh⟩
            subst hh
            rw [hk1b]
            have HK1 := Lib.hid hk1b
            clear hk1b
            cases hk2b : isKeyB person with
            | false =>
              go_wp2_with fail
              refine (isKey_any person _ (by omega)).mono ?_
              rintro e w' ⟨rfl, hh⟩
              subst hh
              rw [hk2b]
              have HF := Lib.hid (show er = _ from HER.out.trans (HW2.out.name2 HK1.out hk2b))
              go_wp2_with fail
              go_ret
              exact ⟨ret_int' HF.out.symm, hw2⟩
            | true =>
              go_wp2_with fail
              refine (isKey_any person _ (by omega)).mono ?_
              rintro e w' ⟨rfl, hh⟩
              subst hh
              rw [hk2b]
              have HW3 := Lib.hid (show PW3 pre ⟨no, tm, paper, person, ans, words⟩ from ⟨HW2.out, HK1.out, hk2b⟩)
              clear hk2b
              go_wp2_with fail
              refine (may_any a0 l0 c0 a1 l1 c1 a2 l2 c2 a3 l3 c3 b paper person tm _ (HI.out _ hx) hp1 hp2 hr0 hr1).mono ?_
              rintro e w5 ⟨rfl, hw5⟩
              replace hx := hx.trans hw5
              replace hw2 := hk1.trans hx
              clear b0 b1 b2 b3 p0 p1 p2 p3 p4 p5
              obtain ⟨b0, b1, b2, b3, p0, p1, p2, p3, p4, p5⟩ := HC.out _ hx
              cases hmy : mayB b paper person tm with
              | false =>
                have HM := Lib.hid hmy
                have HF := Lib.hid (show er = _ from HER.out.trans (HW3.out.rule HM.out))
                go_wp2_with fail
                go_ret
                exact ⟨ret_int' HF.out.symm, hw2⟩
              | true =>
                have HW4 := Lib.hid (show PW4 b pre ⟨no, tm, paper, person, ans, words⟩ from ⟨HW3.out, hmy⟩)
                clear hmy
                go_wp2_with fail
                go_upto_region 11 with fail
                go_cut [57] (fun v wx => v = .bool (astray pre ⟨no, tm, paper, person, ans, words⟩) ∧ All w1 wx)
                case first =>
                  by_cases ha0 : ans = 0
                  · have d0 : (ans != 0) = false := by simpa using ha0
                    have HO := Lib.hid (show astray pre ⟨no, tm, paper, person, ans, words⟩ = false from astray_zero ha0)
                    clear ha0
                    go_quiet (fail)
                    go_wp2_with fail
                    go_meet
                    exact ⟨by rw [HO.out]; first | done | exact congrArg Value.bool dpp, hx.then_drewN _⟩
                  · have d0 : (ans != 0) = true := by simpa using ha0
                    by_cases hout : ans < 1 ∨ (len : Int) < ans
                    · have HO := Lib.hid (show astray pre ⟨no, tm, paper, person, ans, words⟩ = true from astray_out ha0 (by have := Hlen.out; dsimp only; omega))
                      have HD := Lib.hid (show decide (ans < 1 ∨ (len : Int) < ans) = true by simp; omega)
                      have HQ := Lib.hid (fun wx => outside_any ans 1 (len : Int) wx)
                      rw [HD.out] at HQ
                      clear ha0 hout
                      go_quiet ((go_at_call 73; exact Calls.quiet_of_same ((HQ.out _).mono (fun e w' h => ⟨h.1, h.2.symm⟩))))
                      go_wp2_with fail
                      go_meet
                      exact ⟨by rw [HO.out]; first | done | exact congrArg Value.bool dpp, hx.then_drewN _⟩
                    · obtain ⟨j, hj⟩ : ∃ j : Nat, ans = (j : Int) + 1 := ⟨(ans - 1).toNat, by omega⟩
                      obtain ⟨bq, oq, y, haq, -, -, -, q2, -, -, -, -, hy, -⟩ := (HS.out _ hx).atPost (k := j) (by omega)
                      subst haq
                      have HA := Lib.hid (show astray pre ⟨no, tm, paper, person, ans, words⟩ = decide (y.paper ≠ paper) from astray_at hj hy)
                      have HD := Lib.hid (show decide (ans < 1 ∨ (len : Int) < ans) = false by simp; omega)
                      have HQ := Lib.hid (fun wx => outside_any ans 1 (len : Int) wx)
                      rw [HD.out] at HQ
                      subst hj
                      have hjl : (j : Int) < (len : Int) := by omega
                      have f1 : IntKind.i64.wrap ((j : Int) + 1 - 1) = (j : Int) := by rw [show (j : Int) + 1 - 1 = (j : Int) by omega]; exact IntWalk.i64_in _ (by omega)
                      have f2 : (j : Int) + 1 - 1 = (j : Int) := by omega
                      have f3 : (0 : Int) ≤ (j : Int) := by omega
                      clear ha0 hout hy
                      by_cases hpp : y.paper = paper
                      · have dpp : (y.paper.toList != paper.toList) = false := by simp [hpp]
                        have HO := Lib.hid (show astray pre ⟨no, tm, paper, person, (j : Int) + 1, words⟩ = false by rw [HA.out]; simp [hpp])
                        clear hpp
                        go_quiet ((go_at_call 73; exact Calls.quiet_of_same ((HQ.out _).mono (fun e w' h => ⟨h.1, h.2.symm⟩))))
                        go_wp2_with fail
                        go_meet
                        exact ⟨by rw [HO.out]; first | done | exact congrArg Value.bool dpp, hx.then_drewN _⟩
                      · have dpp : (y.paper.toList != paper.toList) = true := by have := bytes_ne hpp; simp only [bne, this, Bool.not_false]
                        have HO := Lib.hid (show astray pre ⟨no, tm, paper, person, (j : Int) + 1, words⟩ = true by rw [HA.out]; simp [hpp])
                        clear hpp
                        go_quiet ((go_at_call 73; exact Calls.quiet_of_same ((HQ.out _).mono (fun e w' h => ⟨h.1, h.2.symm⟩))))
                        go_wp2_with fail
                        go_meet
                        exact ⟨by rw [HO.out]; first | done | exact congrArg Value.bool dpp, hx.then_drewN _⟩
                case rest =>
                  clear hx
                  obtain ⟨rfl, hx⟩ := hcut
                  obtain ⟨w6, rfl⟩ : ∃ y : World, y = wc := ⟨_, rfl⟩
                  clear b0 b1 b2 b3 p0 p1 p2 p3 p4 p5
                  obtain ⟨b0, b1, b2, b3, p0, p1, p2, p3, p4, p5⟩ := HC.out _ hx
                  replace hw2 := hk1.trans hx
                  cases has : astray pre ⟨no, tm, paper, person, ans, words⟩ with
                  | true =>
                    have HO := Lib.hid has
                    have HF := Lib.hid (show er = _ from HER.out.trans (HW4.out.astray HO.out))
                    go_wp2_with fail
                    go_ret
                    exact ⟨ret_int' HF.out.symm, hw2⟩
                  | false =>
                    have HW5 := Lib.hid (show PW5 b pre ⟨no, tm, paper, person, ans, words⟩ from ⟨HW4.out, has⟩)
                    clear has
                    by_cases hw0 : words.size = 0
                    · have he : words.toList = [] := toList_nil hw0
                      have H0 := Lib.hid hw0
                      clear hw0
                      have HF := Lib.hid (show er = _ from HER.out.trans (HW5.out.none H0.out))
                      go_wp2_with fail
                      go_ret
                      exact ⟨ret_int' HF.out.symm, hw2⟩
                    · have he : words.toList ≠ [] := toList_ne hw0
                      have hd : words.toList.isEmpty = false := by simpa using he
                      have H0 := Lib.hid hw0
                      clear hw0
                      go_wp2_with fail
                      refine (isText_any words _ hp3 (HG.out _ hx)).mono ?_
                      rintro e w7 ⟨rfl, hw7⟩
                      replace hx := hx.trans hw7
                      replace hw2 := hk1.trans hx
                      clear b0 b1 b2 b3 p0 p1 p2 p3 p4 p5
                      obtain ⟨b0, b1, b2, b3, p0, p1, p2, p3, p4, p5⟩ := HC.out _ hx
                      cases htx : isTextB words with
                      | false =>
                        have HT := Lib.hid htx
                        have HF := Lib.hid (show er = _ from HER.out.trans (HW5.out.form H0.out HT.out))
                        go_wp2_with fail
                        go_ret
                        exact ⟨ret_int' HF.out.symm, hw2⟩
                      | true =>
                        have HT := Lib.hid htx
                        clear htx
                        by_cases hbig : 4000 < words.size
                        · have dbig : decide ((4000 : Int) < (words.size : Int)) = true := by simp; omega
                          have HBG := Lib.hid hbig
                          clear hbig
                          have HF := Lib.hid (show er = _ from HER.out.trans (HW5.out.large H0.out HT.out HBG.out))
                          go_wp2_with fail
                          go_ret
                          exact ⟨ret_int' HF.out.symm, hw2⟩
                        · have dbig : decide ((4000 : Int) < (words.size : Int)) = false := by simp; omega
                          have HBG := Lib.hid hbig
                          clear hbig
                          have HF := Lib.hid (show er = _ from HER.out.trans (HW5.out.ok H0.out HT.out HBG.out))
                          go_wp2_with fail
                          go_ret
                          exact ⟨ret_int' HF.out.symm, hw2⟩
  · have dno : (no != (len : Int) + 1) = true := by simpa using hno
    have HNO := Lib.hid (show ¬ no = (pre.length : Int) + 1 by have := Hlen.out; omega)
    clear hno
    go_enter Tryz.func69, Tryz.ntmps69
    have HF := Lib.hid (show er = 1 from HER.out.trans (postF_no HNO.out))
    go_wp2_with fail
    go_ret
    exact ⟨ret_int' HF.out.symm, hk1⟩
set_option maxRecDepth 100000 in
set_option maxHeartbeats 12800000 in
theorem postFaultR_any (a0 : Option Addr) (l0 c0 : Nat) (a1 : Option Addr) (l1 c1 : Nat) (a2 : Option Addr) (l2 c2 : Nat) (a3 : Option Addr) (l3 c3 : Nat) (b : Board4) (a : Option Addr) (len cap : Nat) (pre : List Post6) (no tm : Int) (paper person : ByteArray) (ans : Int) (words : ByteArray) (w : World) (h : BoardIs w a0 l0 a1 l1 a2 l2 a3 l3 b) (hs : Sl RPost 6 (fun _ => True) w a len pre) (hl : len ≤ 1000000) (hp : PostSmall ⟨no, tm, paper, person, ans, words⟩) (hg : Tabs w) :
    Calls Tryz.prog 71 #[.agg #[.slice a0 l0 c0, .slice a1 l1 c1, .slice a2 l2 c2, .slice a3 l3 c3], .slice a len cap, .agg #[.int .i64 no, .int .i64 tm, .string paper, .string person, .int .i64 ans, .string words]] w fun e w' => e = .returned (.int .i64 (postF b pre ⟨no, tm, paper, person, ans, words⟩)) ∧ All w w' := by
  obtain ⟨hp1, hp2, hp3⟩ := hp
  dsimp only at hp1 hp2 hp3
  have hk1 : All w ((w.alloc (.cells #[.slice a0 l0 c0, .slice a1 l1 c1, .slice a2 l2 c2, .slice a3 l3 c3] 50)).alloc (.cells #[.int .i64 no, .int .i64 tm, .string paper, .string person, .int .i64 ans, .string words] 58)) := (Kept.alloc _ _ _).then_alloc _
  have hB := heap_old (.cells #[.int .i64 no, .int .i64 tm, .string paper, .string person, .int .i64 ans, .string words] 58) (heap_at w (.cells #[.slice a0 l0 c0, .slice a1 l1 c1, .slice a2 l2 c2, .slice a3 l3 c3] 50) _ rfl)
  have hP := heap_at (w.alloc (.cells #[.slice a0 l0 c0, .slice a1 l1 c1, .slice a2 l2 c2, .slice a3 l3 c3] 50)) (.cells #[.int .i64 no, .int .i64 tm, .string paper, .string person, .int .i64 ans, .string words] 58) _ rfl
  have Hlen := Lib.hid hs.len
  have HI := Lib.hid (fun (wx : World) (k : All ((w.alloc (.cells #[.slice a0 l0 c0, .slice a1 l1 c1, .slice a2 l2 c2, .slice a3 l3 c3] 50)).alloc (.cells #[.int .i64 no, .int .i64 tm, .string paper, .string person, .int .i64 ans, .string words] 58)) wx) => h.keep (hk1.trans k))
  have HS := Lib.hid (fun (wx : World) (k : All ((w.alloc (.cells #[.slice a0 l0 c0, .slice a1 l1 c1, .slice a2 l2 c2, .slice a3 l3 c3] 50)).alloc (.cells #[.int .i64 no, .int .i64 tm, .string paper, .string person, .int .i64 ans, .string words] 58)) wx) => hs.keep RPost.ok (hk1.trans k))
  have HG := Lib.hid (fun (wx : World) (k : All ((w.alloc (.cells #[.slice a0 l0 c0, .slice a1 l1 c1, .slice a2 l2 c2, .slice a3 l3 c3] 50)).alloc (.cells #[.int .i64 no, .int .i64 tm, .string paper, .string person, .int .i64 ans, .string words] 58)) wx) => hg.keep (hk1.trans k))
  have HC := Lib.hid (fun (wx : World) (k : All ((w.alloc (.cells #[.slice a0 l0 c0, .slice a1 l1 c1, .slice a2 l2 c2, .slice a3 l3 c3] 50)).alloc (.cells #[.int .i64 no, .int .i64 tm, .string paper, .string person, .int .i64 ans, .string words] 58)) wx) => (⟨k.cell (cell_at (i := 0) hB rfl) trivial, k.cell (cell_at (i := 1) hB rfl) trivial, k.cell (cell_at (i := 2) hB rfl) trivial, k.cell (cell_at (i := 3) hB rfl) trivial, k.cell (cell_at (i := 0) hP rfl) trivial, k.cell (cell_at (i := 1) hP rfl) trivial, k.cell (cell_at (i := 2) hP rfl) trivial, k.cell (cell_at (i := 3) hP rfl) trivial, k.cell (cell_at (i := 4) hP rfl) trivial, k.cell (cell_at (i := 5) hP rfl) trivial⟩ : _ ∧ _ ∧ _ ∧ _ ∧ _ ∧ _ ∧ _ ∧ _ ∧ _ ∧ _))
  obtain ⟨bb, hbb⟩ : ∃ k, k = w.heap.size := ⟨_, rfl⟩
  obtain ⟨pb, hpb⟩ : ∃ k, k = (w.alloc (.cells #[.slice a0 l0 c0, .slice a1 l1 c1, .slice a2 l2 c2, .slice a3 l3 c3] 50)).heap.size := ⟨_, rfl⟩
  have hk3 : bb + 1 = pb := by rw [hpb, hbb]; simp
  have HBB := Lib.hid hbb
  have HK3 := Lib.hid hk3
  rw [← hbb, ← hpb] at HC
  obtain ⟨er, her⟩ : ∃ e, e = postF b pre ⟨no, tm, paper, person, ans, words⟩ := ⟨_, rfl⟩
  have HER := Lib.hid her
  rw [← her]
  obtain ⟨b0, b1, b2, b3, p0, p1, p2, p3, p4, p5⟩ := HC.out _ (Kept.refl _ _)
  clear hB hP h hs hg hbb hpb hk3 her
  by_cases hno : no = (len : Int) + 1
  · have dno : (no != (len : Int) + 1) = false := by simpa using hno
    have HNO := Lib.hid (show no = (pre.length : Int) + 1 by rw [hno]; have := Hlen.out; omega)
    clear hno
    go_enter Tryz.func71, Tryz.ntmps71
    go_wp2_with fail
    simp only [← HBB.out, HK3.out]
    generalize (w.alloc (.cells #[.slice a0 l0 c0, .slice a1 l1 c1, .slice a2 l2 c2, .slice a3 l3 c3] 50)).alloc (.cells #[.int .i64 no, .int .i64 tm, .string paper, .string person, .int .i64 ans, .string words] 58) = w1 at *
    by_cases htm : tm < 0 ∨ 5761440 ≤ tm
    · have HTM := Lib.hid htm
      refine (moment_any _ _).mono ?_
      rintro e w' ⟨rfl, hh⟩
      subst hh
      rw [show decide (0 ≤ tm ∧ tm < 5761440) = false from by simp; omega]
      clear htm
      have HF := Lib.hid (show er = _ from HER.out.trans (postF_arg HNO.out HTM.out))
      go_wp2_with fail
      go_ret
      exact ⟨ret_int' HF.out.symm, hk1⟩
    · have HW1 := Lib.hid (show PW1 pre ⟨no, tm, paper, person, ans, words⟩ from ⟨HNO.out, htm⟩)
      refine (moment_any _ _).mono ?_
      rintro e w' ⟨rfl, hh⟩
      subst hh
      rw [show decide (0 ≤ tm ∧ tm < 5761440) = true from by simp; omega]
      clear htm dno
      go_wp2_with fail
      go_upto_region 4 with fail
      go_cut [20] (fun v wx => v = .bool (earlierP pre.getLast? ⟨no, tm, paper, person, ans, words⟩) ∧ All w1 wx)
      case first =>
        rcases Nat.eq_zero_or_pos len with h0 | h0
        · subst h0
          have hx : pre = [] := List.eq_nil_of_length_eq_zero Hlen.out
          have HO := Lib.hid (show earlierP pre.getLast? ⟨no, tm, paper, person, ans, words⟩ = false by rw [hx]; rfl)
          have hgd : decide ((0 : Int) < ((0 : Nat) : Int)) = false := by simp
          clear hx
          go_quiet (fail)
          go_wp2_with fail
          go_meet
          exact ⟨by rw [HO.out], Kept.drewN _ _ _⟩
        · obtain ⟨kp, rfl⟩ : ∃ kp, len = kp + 1 := ⟨len - 1, by omega⟩
          obtain ⟨bq, oq, y, haq, -, -, q1, -, -, -, -, -, hy, -⟩ := (HS.out _ (Kept.refl _ _)).atPost (k := kp) (by omega)
          subst haq
          have HO := Lib.hid (earlierP_last (x := ⟨no, tm, paper, person, ans, words⟩) Hlen.out hy)
          have f1 : IntKind.i64.wrap (kp : Int) = (kp : Int) := IntWalk.i64_in _ (by omega)
          have f3 : (0 : Int) ≤ (kp : Int) := by omega
          have f4 : (kp : Int) < ((kp + 1 : Nat) : Int) := by omega
          have f5 : ((kp + 1 : Nat) : Int) - 1 = (kp : Int) := by omega
          clear hy
          go_quiet (fail)
          go_wp2_with fail
          go_meet
          exact ⟨by rw [HO.out], Kept.drewN _ _ _⟩
      case rest =>
        obtain ⟨rfl, hx⟩ := hcut
        obtain ⟨w2, rfl⟩ : ∃ y : World, y = wc := ⟨_, rfl⟩
        clear b0 b1 b2 b3 p0 p1 p2 p3 p4 p5
        obtain ⟨b0, b1, b2, b3, p0, p1, p2, p3, p4, p5⟩ := HC.out _ hx
        have hw2 := hk1.trans hx
        cases hor : earlierP pre.getLast? ⟨no, tm, paper, person, ans, words⟩ with
        | true =>
          have HO := Lib.hid hor
          have HF := Lib.hid (show er = _ from HER.out.trans (HW1.out.order HO.out))
          go_wp2_with fail
          go_ret
          exact ⟨ret_int' HF.out.symm, hw2⟩
        | false =>
          have HW2 := Lib.hid (show PW2 pre ⟨no, tm, paper, person, ans, words⟩ from ⟨HW1.out, hor⟩)
          clear hor
          cases hk1b : isKeyB paper with
          | false =>
            go_wp2_with fail
            refine (key_any paper _ (by omega)).mono ?_
            rintro e w3 ⟨rfl, hw3⟩
            rw [hk1b]
            have HF := Lib.hid (show er = _ from HER.out.trans (HW2.out.name hk1b))
            go_wp2_with fail
            go_ret
            exact ⟨ret_int' HF.out.symm, hw2.trans hw3⟩
          | true =>
            go_wp2_with fail
            refine (key_any paper _ (by omega)).mono ?_
            rintro e w3 ⟨rfl, hw3⟩
            rw [hk1b]
            replace hx := hx.trans hw3
            replace hw2 := hk1.trans hx
            clear b0 b1 b2 b3 p0 p1 p2 p3 p4 p5
            obtain ⟨b0, b1, b2, b3, p0, p1, p2, p3, p4, p5⟩ := HC.out _ hx
            have HK1 := Lib.hid hk1b
            clear hk1b
            cases hk2b : isKeyB person with
            | false =>
              go_wp2_with fail
              refine (key_any person _ (by omega)).mono ?_
              rintro e w4 ⟨rfl, hw4⟩
              rw [hk2b]
              have HF := Lib.hid (show er = _ from HER.out.trans (HW2.out.name2 HK1.out hk2b))
              go_wp2_with fail
              go_ret
              exact ⟨ret_int' HF.out.symm, hw2.trans hw4⟩
            | true =>
              go_wp2_with fail
              refine (key_any person _ (by omega)).mono ?_
              rintro e w4 ⟨rfl, hw4⟩
              rw [hk2b]
              replace hx := hx.trans hw4
              replace hw2 := hk1.trans hx
              clear b0 b1 b2 b3 p0 p1 p2 p3 p4 p5
              obtain ⟨b0, b1, b2, b3, p0, p1, p2, p3, p4, p5⟩ := HC.out _ hx
              have HW3 := Lib.hid (show PW3 pre ⟨no, tm, paper, person, ans, words⟩ from ⟨HW2.out, HK1.out, hk2b⟩)
              clear hk2b
              go_wp2_with fail
              refine (mayOf_any a0 l0 c0 a1 l1 c1 a2 l2 c2 a3 l3 c3 b paper person tm _ (HI.out _ hx)).mono ?_
              rintro e w5 ⟨rfl, hw5⟩
              replace hx := hx.trans hw5
              replace hw2 := hk1.trans hx
              clear b0 b1 b2 b3 p0 p1 p2 p3 p4 p5
              obtain ⟨b0, b1, b2, b3, p0, p1, p2, p3, p4, p5⟩ := HC.out _ hx
              cases hmy : mayB b paper person tm with
              | false =>
                have HM := Lib.hid hmy
                have HF := Lib.hid (show er = _ from HER.out.trans (HW3.out.rule HM.out))
                go_wp2_with fail
                go_ret
                exact ⟨ret_int' HF.out.symm, hw2⟩
              | true =>
                have HW4 := Lib.hid (show PW4 b pre ⟨no, tm, paper, person, ans, words⟩ from ⟨HW3.out, hmy⟩)
                clear hmy
                go_wp2_with fail
                go_upto_region 10 with fail
                go_cut [58] (fun v wx => v = .bool (astray pre ⟨no, tm, paper, person, ans, words⟩) ∧ All w1 wx)
                case first =>
                  by_cases ha0 : ans = 0
                  · have d0 : (ans != 0) = false := by simpa using ha0
                    have HO := Lib.hid (show astray pre ⟨no, tm, paper, person, ans, words⟩ = false from astray_zero ha0)
                    clear ha0
                    go_quiet (fail)
                    go_wp2_with fail
                    go_meet
                    exact ⟨by rw [HO.out]; first | done | exact congrArg Value.bool dpp, hx.then_drewN _⟩
                  · have d0 : (ans != 0) = true := by simpa using ha0
                    by_cases hout : ans < 1 ∨ (len : Int) < ans
                    · have HO := Lib.hid (show astray pre ⟨no, tm, paper, person, ans, words⟩ = true from astray_out ha0 (by have := Hlen.out; dsimp only; omega))
                      have HD := Lib.hid (show decide (1 ≤ ans ∧ ans ≤ (len : Int)) = false by simp; omega)
                      have HQ := Lib.hid (fun wx => in_any ans 1 (len : Int) wx)
                      rw [HD.out] at HQ
                      clear ha0 hout
                      go_quiet ((go_at_call 81; exact Calls.quiet_of_same ((HQ.out _).mono (fun e w' h => ⟨h.1, h.2.symm⟩))))
                      go_wp2_with fail
                      go_meet
                      exact ⟨by rw [HO.out]; first | done | exact congrArg Value.bool dpp, hx.then_drewN _⟩
                    · obtain ⟨j, hj⟩ : ∃ j : Nat, ans = (j : Int) + 1 := ⟨(ans - 1).toNat, by omega⟩
                      obtain ⟨bq, oq, y, haq, -, -, -, q2, -, -, -, -, hy, -⟩ := (HS.out _ hx).atPost (k := j) (by omega)
                      subst haq
                      have HA := Lib.hid (show astray pre ⟨no, tm, paper, person, ans, words⟩ = decide (y.paper ≠ paper) from astray_at hj hy)
                      have HD := Lib.hid (show decide (1 ≤ ans ∧ ans ≤ (len : Int)) = true by simp; omega)
                      have HQ := Lib.hid (fun wx => in_any ans 1 (len : Int) wx)
                      rw [HD.out] at HQ
                      subst hj
                      have hjl : (j : Int) < (len : Int) := by omega
                      have f1 : IntKind.i64.wrap ((j : Int) + 1 - 1) = (j : Int) := by rw [show (j : Int) + 1 - 1 = (j : Int) by omega]; exact IntWalk.i64_in _ (by omega)
                      have f2 : (j : Int) + 1 - 1 = (j : Int) := by omega
                      have f3 : (0 : Int) ≤ (j : Int) := by omega
                      clear ha0 hout hy
                      by_cases hpp : y.paper = paper
                      · have dpp : (y.paper.toList != paper.toList) = false := by simp [hpp]
                        have HO := Lib.hid (show astray pre ⟨no, tm, paper, person, (j : Int) + 1, words⟩ = false by rw [HA.out]; simp [hpp])
                        clear hpp
                        go_quiet ((go_at_call 81; exact Calls.quiet_of_same ((HQ.out _).mono (fun e w' h => ⟨h.1, h.2.symm⟩))))
                        go_wp2_with fail
                        go_meet
                        exact ⟨by rw [HO.out]; first | done | exact congrArg Value.bool dpp, hx.then_drewN _⟩
                      · have dpp : (y.paper.toList != paper.toList) = true := by have := bytes_ne hpp; simp only [bne, this, Bool.not_false]
                        have HO := Lib.hid (show astray pre ⟨no, tm, paper, person, (j : Int) + 1, words⟩ = true by rw [HA.out]; simp [hpp])
                        clear hpp
                        go_quiet ((go_at_call 81; exact Calls.quiet_of_same ((HQ.out _).mono (fun e w' h => ⟨h.1, h.2.symm⟩))))
                        go_wp2_with fail
                        go_meet
                        exact ⟨by rw [HO.out]; first | done | exact congrArg Value.bool dpp, hx.then_drewN _⟩
                case rest =>
                  clear hx
                  obtain ⟨rfl, hx⟩ := hcut
                  obtain ⟨w6, rfl⟩ : ∃ y : World, y = wc := ⟨_, rfl⟩
                  clear b0 b1 b2 b3 p0 p1 p2 p3 p4 p5
                  obtain ⟨b0, b1, b2, b3, p0, p1, p2, p3, p4, p5⟩ := HC.out _ hx
                  replace hw2 := hk1.trans hx
                  cases has : astray pre ⟨no, tm, paper, person, ans, words⟩ with
                  | true =>
                    have HO := Lib.hid has
                    have HF := Lib.hid (show er = _ from HER.out.trans (HW4.out.astray HO.out))
                    go_wp2_with fail
                    go_ret
                    exact ⟨ret_int' HF.out.symm, hw2⟩
                  | false =>
                    have HW5 := Lib.hid (show PW5 b pre ⟨no, tm, paper, person, ans, words⟩ from ⟨HW4.out, has⟩)
                    clear has
                    by_cases hw0 : words.size = 0
                    · have he : words.toList = [] := toList_nil hw0
                      have H0 := Lib.hid hw0
                      clear hw0
                      have HF := Lib.hid (show er = _ from HER.out.trans (HW5.out.none H0.out))
                      go_wp2_with fail
                      go_ret
                      exact ⟨ret_int' HF.out.symm, hw2⟩
                    · have he : words.toList ≠ [] := toList_ne hw0
                      have hd : words.toList.isEmpty = false := by simpa using he
                      have H0 := Lib.hid hw0
                      clear hw0
                      go_wp2_with fail
                      refine (isTextR_any words _ hp3 (HG.out _ hx)).mono ?_
                      rintro e w7 ⟨rfl, hw7⟩
                      replace hx := hx.trans hw7
                      replace hw2 := hk1.trans hx
                      clear b0 b1 b2 b3 p0 p1 p2 p3 p4 p5
                      obtain ⟨b0, b1, b2, b3, p0, p1, p2, p3, p4, p5⟩ := HC.out _ hx
                      cases htx : isTextB words with
                      | false =>
                        have HT := Lib.hid htx
                        have HF := Lib.hid (show er = _ from HER.out.trans (HW5.out.form H0.out HT.out))
                        go_wp2_with fail
                        go_ret
                        exact ⟨ret_int' HF.out.symm, hw2⟩
                      | true =>
                        have HT := Lib.hid htx
                        clear htx
                        by_cases hbig : 4000 < words.size
                        · have dbig : decide ((4000 : Int) < (words.size : Int)) = true := by simp; omega
                          have HBG := Lib.hid hbig
                          clear hbig
                          have HF := Lib.hid (show er = _ from HER.out.trans (HW5.out.large H0.out HT.out HBG.out))
                          go_wp2_with fail
                          go_ret
                          exact ⟨ret_int' HF.out.symm, hw2⟩
                        · have dbig : decide ((4000 : Int) < (words.size : Int)) = false := by simp; omega
                          have HBG := Lib.hid hbig
                          clear hbig
                          have HF := Lib.hid (show er = _ from HER.out.trans (HW5.out.ok H0.out HT.out HBG.out))
                          go_wp2_with fail
                          go_ret
                          exact ⟨ret_int' HF.out.symm, hw2⟩
  · have dno : (no != (len : Int) + 1) = true := by simpa using hno
    have HNO := Lib.hid (show ¬ no = (pre.length : Int) + 1 by have := Hlen.out; omega)
    clear hno
    go_enter Tryz.func71, Tryz.ntmps71
    have HF := Lib.hid (show er = 1 from HER.out.trans (postF_no HNO.out))
    go_wp2_with fail
    go_ret
    exact ⟨ret_int' HF.out.symm, hk1⟩
end Go.Proofs.YtllkemadaemjeaaGreatDoor
