/- postFault, of the program and of the reference. -/
import Derived.Test.YtllkemadaemjeaaGreatDoorDp
import Derived.Test.YtllkemadaemjeaaGreatDoorDh
import Derived.Test.YtllkemadaemjeaaGreatDoorBk
import Derived.Test.YtllkemadaemjeaaGreatDoorBh
import Derived.Test.YtllkemadaemjeaaGreatDoorBg
import Derived.Test.YtllkemadaemjeaaGreatDoorBf
import Derived.Test.YtllkemadaemjeaaGreatDoorIp
import Derived.Test.YtllkemadaemjeaaGreatDoorZl
namespace Go.Proofs.YtllkemadaemjeaaGreatDoor
open Go.RowKit

set_option maxRecDepth 100000 in
set_option maxHeartbeats 12800000 in
theorem postFault_any (a0 : Option Addr) (l0 c0 : Nat) (a1 : Option Addr) (l1 c1 : Nat) (a2 : Option Addr) (l2 c2 : Nat) (a3 : Option Addr) (l3 c3 : Nat) (b : Board4) (a : Option Addr) (len cap : Nat) (pre : List Post6) (no tm : Int) (paper person : ByteArray) (ans : Int) (words : ByteArray) (w : World) (h : BoardIs w a0 l0 a1 l1 a2 l2 a3 l3 b) (hr0 : b.pairs.Pairwise ltPP) (hr1 : b.barred.Pairwise ltPP) (hs : Sl RPost 6 (fun _ => True) w a len pre) (hl : len ≤ 1000000) (hp : PostSmall ⟨no, tm, paper, person, ans, words⟩) (hg : Tabs w) :
    Calls Tryz.prog 69 #[.agg #[.slice a0 l0 c0, .slice a1 l1 c1, .slice a2 l2 c2, .slice a3 l3 c3], .slice a len cap, .agg #[.int .i64 no, .int .i64 tm, .string paper, .string person, .int .i64 ans, .string words]] w fun e w' => e = .returned (.int .i64 (postF b pre ⟨no, tm, paper, person, ans, words⟩)) ∧ All w w' := by
  obtain ⟨hp1, hp2, hp3⟩ := hp
  dsimp only at hp1 hp2 hp3
  have hk1 : All w ((w.alloc (.cells #[.slice a0 l0 c0, .slice a1 l1 c1, .slice a2 l2 c2, .slice a3 l3 c3] 50)).alloc (.cells #[.int .i64 no, .int .i64 tm, .string paper, .string person, .int .i64 ans, .string words] 58)) := (Kept.alloc _ _ _).then_alloc _
  have hB := heap_old (.cells #[.int .i64 no, .int .i64 tm, .string paper, .string person, .int .i64 ans, .string words] 58) (heap_at w (.cells #[.slice a0 l0 c0, .slice a1 l1 c1, .slice a2 l2 c2, .slice a3 l3 c3] 50) _ rfl)
  have hP := heap_at (w.alloc (.cells #[.slice a0 l0 c0, .slice a1 l1 c1, .slice a2 l2 c2, .slice a3 l3 c3] 50)) (.cells #[.int .i64 no, .int .i64 tm, .string paper, .string person, .int .i64 ans, .string words] 58) _ rfl
  have Hlen := Lib.hid hs.len
  have HI := Lib.hid (fun (wx : World) (k : All ((w.alloc (.cells #[.slice a0 l0 c0, .slice a1 l1 c1, .slice a2 l2 c2, .slice a3 l3 c3] 50)).alloc (.cells #[.int .i64 no, .int .i64 tm, .string paper, .string person, .int .i64 ans, .string words] 58)) wx) => h.keep (hk1.trans k))
  have HS := Lib.hid (fun (wx : World) (k : All ((w.alloc (.cells #[.slice a0 l0 c0, .slice a1 l1 c1, .slice a2 l2 c2, .slice a3 l3 c3] 50)).alloc (.cells #[.int .i64 no, .int .i64 tm, .string paper, .string person, .int .i64 ans, .string words] 58)) wx) => hs.keep RPost.ok (hk1.trans k))
  have HG := Lib.hid (fun (wx : World) (k : All ((w.alloc (.cells #[.slice a0 l0 c0, .slice a1 l1 c1, .slice a2 l2 c2, .slice a3 l3 c3] 50)).alloc (.cells #[.int .i64 no, .int .i64 tm, .string paper, .string person, .int .i64 ans, .string words] 58)) wx) => hg.keep (hk1.trans k))
  have HC := Lib.hid (fun (wx : World) (k : All ((w.alloc (.cells #[.slice a0 l0 c0, .slice a1 l1 c1, .slice a2 l2 c2, .slice a3 l3 c3] 50)).alloc (.cells #[.int .i64 no, .int .i64 tm, .string paper, .string person, .int .i64 ans, .string words] 58)) wx) => (⟨k.cell (cell_at (i := 0) hB rfl) trivial, k.cell (cell_at (i := 1) hB rfl) trivial, k.cell (cell_at (i := 2) hB rfl) trivial, k.cell (cell_at (i := 3) hB rfl) trivial, k.cell (cell_at (i := 0) hP rfl) trivial, k.cell (cell_at (i := 1) hP rfl) trivial, k.cell (cell_at (i := 2) hP rfl) trivial, k.cell (cell_at (i := 3) hP rfl) trivial, k.cell (cell_at (i := 4) hP rfl) trivial, k.cell (cell_at (i := 5) hP rfl) trivial⟩ : _ ∧ _ ∧ _ ∧ _ ∧ _ ∧ _ ∧ _ ∧ _ ∧ _ ∧ _))
  obtain ⟨bb, hbb⟩ : ∃ k, k = w.heap.size := ⟨_, rfl⟩
  obtain ⟨pb, hpb⟩ : ∃ k, k = (w.alloc (.cells #[.slice a0 l0 c0, .slice a1 l1 c1, .slice a2 l2 c2, .slice a3 l3 c3] 50)).heap.size := ⟨_, rfl⟩
  have hk3 : bb + 1 = pb := by rw [hpb, hbb]; simp
  have HBB := Lib.hid hbb
  have HK3 := Lib.hid hk3
  rw [← hbb, ← hpb] at HC
  obtain ⟨er, her⟩ : ∃ e, e = postF b pre ⟨no, tm, paper, person, ans, words⟩ := ⟨_, rfl⟩
  have HER := Lib.hid her
  rw [← her]
  obtain ⟨b0, b1, b2, b3, p0, p1, p2, p3, p4, p5⟩ := HC.out _ (Kept.refl _ _)
  clear hB hP h hs hg hbb hpb hk3 her
  by_cases hno : no = (len : Int) + 1
  · have dno : (no != (len : Int) + 1) = false := by simpa using hno
    have HNO := Lib.hid (show no = (pre.length : Int) + 1 by rw [hno]; have := Hlen.out; omega)
    clear hno
    go_enter Tryz.func69, Tryz.ntmps69
    go_wp2_with fail
    simp only [← HBB.out, HK3.out]
    generalize (w.alloc (.cells #[.slice a0 l0 c0, .slice a1 l1 c1, .slice a2 l2 c2, .slice a3 l3 c3] 50)).alloc (.cells #[.int .i64 no, .int .i64 tm, .string paper, .string person, .int .i64 ans, .string words] 58) = w1 at *
    by_cases htm : tm < 0 ∨ 5761440 ≤ tm
    · have HTM := Lib.hid htm
      refine (isMoment_any _ _).mono ?_
      rintro e w' ⟨rfl, hh⟩
      subst hh
      rw [show decide (0 ≤ tm ∧ tm < 5761440) = false from by simp; omega]
      clear htm
      have HF := Lib.hid (show er = _ from HER.out.trans (postF_arg HNO.out HTM.out))
      go_wp2_with fail
      go_ret
      exact ⟨ret_int' HF.out.symm, hk1⟩
    · have HW1 := Lib.hid (show PW1 pre ⟨no, tm, paper, person, ans, words⟩ from ⟨HNO.out, htm⟩)
      refine (isMoment_any _ _).mono ?_
      rintro e w' ⟨rfl, hh⟩
      subst hh
      rw [show decide (0 ≤ tm ∧ tm < 5761440) = true from by simp; omega]
      clear htm dno
      go_wp2_with fail
      go_upto_region 5 with fail
      go_cut [22] (fun v wx => v = .bool (earlierP pre.getLast? ⟨no, tm, paper, person, ans, words⟩) ∧ All w1 wx)
      case first =>
        rcases Nat.eq_zero_or_pos len with h0 | h0
        · subst h0
          have hx : pre = [] := List.eq_nil_of_length_eq_zero Hlen.out
          have HO := Lib.hid (show earlierP pre.getLast? ⟨no, tm, paper, person, ans, words⟩ = false by rw [hx]; rfl)
          have hgd : decide ((0 : Int) < ((0 : Nat) : Int)) = false := by simp
          clear hx
          go_quiet (fail)
          go_wp2_with fail
          go_meet
          exact ⟨by rw [HO.out], Kept.drewN _ _ _⟩
        · obtain ⟨kp, rfl⟩ : ∃ kp, len = kp + 1 := ⟨len - 1, by omega⟩
          obtain ⟨bq, oq, y, haq, -, -, q1, -, -, -, -, -, hy, -⟩ := (HS.out _ (Kept.refl _ _)).atPost (k := kp) (by omega)
          subst haq
          have HO := Lib.hid (earlierP_last (x := ⟨no, tm, paper, person, ans, words⟩) Hlen.out hy)
          have f1 : IntKind.i64.wrap (kp : Int) = (kp : Int) := IntWalk.i64_in _ (by omega)
          have f3 : (0 : Int) ≤ (kp : Int) := by omega
          have f4 : (kp : Int) < ((kp + 1 : Nat) : Int) := by omega
          have f5 : ((kp + 1 : Nat) : Int) - 1 = (kp : Int) := by omega
          clear hy
          go_quiet (fail)
          go_wp2_with fail
          go_meet
          exact ⟨by rw [HO.out], Kept.drewN _ _ _⟩
      case rest =>
        obtain ⟨rfl, hx⟩ := hcut
        obtain ⟨w2, rfl⟩ : ∃ y : World, y = wc := ⟨_, rfl⟩
        clear b0 b1 b2 b3 p0 p1 p2 p3 p4 p5
        obtain ⟨b0, b1, b2, b3, p0, p1, p2, p3, p4, p5⟩ := HC.out _ hx
        have hw2 := hk1.trans hx
        cases hor : earlierP pre.getLast? ⟨no, tm, paper, person, ans, words⟩ with
        | true =>
          have HO := Lib.hid hor
          have HF := Lib.hid (show er = _ from HER.out.trans (HW1.out.order HO.out))
          go_wp2_with fail
          go_ret
          exact ⟨ret_int' HF.out.symm, hw2⟩
        | false =>
          have HW2 := Lib.hid (show PW2 pre ⟨no, tm, paper, person, ans, words⟩ from ⟨HW1.out, hor⟩)
          clear hor
          cases hk1b : isKeyB paper with
          | false =>
            go_wp2_with fail
            refine (isKey_any paper _ (by omega)).mono ?_
            rintro e w' ⟨rfl, hh⟩
            subst hh
            rw [hk1b]
            have HF := Lib.hid (show er = _ from HER.out.trans (HW2.out.name hk1b))
            go_wp2_with fail
            go_ret
            exact ⟨ret_int' HF.out.symm, hw2⟩
          | true =>
            go_wp2_with fail
            refine (isKey_any paper _ (by omega)).mono ?_
            rintro e w' ⟨rfl, hh⟩
            subst hh
            rw [hk1b]
            have HK1 := Lib.hid hk1b
            clear hk1b
            cases hk2b : isKeyB person with
            | false =>
              go_wp2_with fail
              refine (isKey_any person _ (by omega)).mono ?_
              rintro e w' ⟨rfl, hh⟩
              subst hh
              rw [hk2b]
              have HF := Lib.hid (show er = _ from HER.out.trans (HW2.out.name2 HK1.out hk2b))
              go_wp2_with fail
              go_ret
              exact ⟨ret_int' HF.out.symm, hw2⟩
            | true =>
              go_wp2_with fail
              refine (isKey_any person _ (by omega)).mono ?_
              rintro e w' ⟨rfl, hh⟩
              subst hh
              rw [hk2b]
              have HW3 := Lib.hid (show PW3 pre ⟨no, tm, paper, person, ans, words⟩ from ⟨HW2.out, HK1.out, hk2b⟩)
              clear hk2b
              go_wp2_with fail
              refine (may_any a0 l0 c0 a1 l1 c1 a2 l2 c2 a3 l3 c3 b paper person tm _ (HI.out _ hx) hp1 hp2 hr0 hr1).mono ?_
              rintro e w5 ⟨rfl, hw5⟩
              replace hx := hx.trans hw5
              replace hw2 := hk1.trans hx
              clear b0 b1 b2 b3 p0 p1 p2 p3 p4 p5
              obtain ⟨b0, b1, b2, b3, p0, p1, p2, p3, p4, p5⟩ := HC.out _ hx
              cases hmy : mayB b paper person tm with
              | false =>
                have HM := Lib.hid hmy
                have HF := Lib.hid (show er = _ from HER.out.trans (HW3.out.rule HM.out))
                go_wp2_with fail
                go_ret
                exact ⟨ret_int' HF.out.symm, hw2⟩
              | true =>
                have HW4 := Lib.hid (show PW4 b pre ⟨no, tm, paper, person, ans, words⟩ from ⟨HW3.out, hmy⟩)
                clear hmy
                go_wp2_with fail
                go_upto_region 11 with fail
                go_cut [57] (fun v wx => v = .bool (astray pre ⟨no, tm, paper, person, ans, words⟩) ∧ All w1 wx)
                case first =>
                  by_cases ha0 : ans = 0
                  · have d0 : (ans != 0) = false := by simpa using ha0
                    have HO := Lib.hid (show astray pre ⟨no, tm, paper, person, ans, words⟩ = false from astray_zero ha0)
                    clear ha0
                    go_quiet (fail)
                    go_wp2_with fail
                    go_meet
                    exact ⟨by rw [HO.out]; first | done | exact congrArg Value.bool dpp, hx.then_drewN _⟩
                  · have d0 : (ans != 0) = true := by simpa using ha0
                    by_cases hout : ans < 1 ∨ (len : Int) < ans
                    · have HO := Lib.hid (show astray pre ⟨no, tm, paper, person, ans, words⟩ = true from astray_out ha0 (by have := Hlen.out; dsimp only; omega))
                      have HD := Lib.hid (show decide (ans < 1 ∨ (len : Int) < ans) = true by simp; omega)
                      have HQ := Lib.hid (fun wx => outside_any ans 1 (len : Int) wx)
                      rw [HD.out] at HQ
                      clear ha0 hout
                      go_quiet ((go_at_call 73; exact Calls.quiet_of_same ((HQ.out _).mono (fun e w' h => ⟨h.1, h.2.symm⟩))))
                      go_wp2_with fail
                      go_meet
                      exact ⟨by rw [HO.out]; first | done | exact congrArg Value.bool dpp, hx.then_drewN _⟩
                    · obtain ⟨j, hj⟩ : ∃ j : Nat, ans = (j : Int) + 1 := ⟨(ans - 1).toNat, by omega⟩
                      obtain ⟨bq, oq, y, haq, -, -, -, q2, -, -, -, -, hy, -⟩ := (HS.out _ hx).atPost (k := j) (by omega)
                      subst haq
                      have HA := Lib.hid (show astray pre ⟨no, tm, paper, person, ans, words⟩ = decide (y.paper ≠ paper) from astray_at hj hy)
                      have HD := Lib.hid (show decide (ans < 1 ∨ (len : Int) < ans) = false by simp; omega)
                      have HQ := Lib.hid (fun wx => outside_any ans 1 (len : Int) wx)
                      rw [HD.out] at HQ
                      subst hj
                      have hjl : (j : Int) < (len : Int) := by omega
                      have f1 : IntKind.i64.wrap ((j : Int) + 1 - 1) = (j : Int) := by rw [show (j : Int) + 1 - 1 = (j : Int) by omega]; exact IntWalk.i64_in _ (by omega)
                      have f2 : (j : Int) + 1 - 1 = (j : Int) := by omega
                      have f3 : (0 : Int) ≤ (j : Int) := by omega
                      clear ha0 hout hy
                      by_cases hpp : y.paper = paper
                      · have dpp : (y.paper.toList != paper.toList) = false := by simp [hpp]
                        have HO := Lib.hid (show astray pre ⟨no, tm, paper, person, (j : Int) + 1, words⟩ = false by rw [HA.out]; simp [hpp])
                        clear hpp
                        go_quiet ((go_at_call 73; exact Calls.quiet_of_same ((HQ.out _).mono (fun e w' h => ⟨h.1, h.2.symm⟩))))
                        go_wp2_with fail
                        go_meet
                        exact ⟨by rw [HO.out]; first | done | exact congrArg Value.bool dpp, hx.then_drewN _⟩
                      · have dpp : (y.paper.toList != paper.toList) = true := by have := bytes_ne hpp; simp only [bne, this, Bool.not_false]
                        have HO := Lib.hid (show astray pre ⟨no, tm, paper, person, (j : Int) + 1, words⟩ = true by rw [HA.out]; simp [hpp])
                        clear hpp
                        go_quiet ((go_at_call 73; exact Calls.quiet_of_same ((HQ.out _).mono (fun e w' h => ⟨h.1, h.2.symm⟩))))
                        go_wp2_with fail
                        go_meet
                        exact ⟨by rw [HO.out]; first | done | exact congrArg Value.bool dpp, hx.then_drewN _⟩
                case rest =>
                  clear hx
                  obtain ⟨rfl, hx⟩ := hcut
                  obtain ⟨w6, rfl⟩ : ∃ y : World, y = wc := ⟨_, rfl⟩
                  clear b0 b1 b2 b3 p0 p1 p2 p3 p4 p5
                  obtain ⟨b0, b1, b2, b3, p0, p1, p2, p3, p4, p5⟩ := HC.out _ hx
                  replace hw2 := hk1.trans hx
                  cases has : astray pre ⟨no, tm, paper, person, ans, words⟩ with
                  | true =>
                    have HO := Lib.hid has
                    have HF := Lib.hid (show er = _ from HER.out.trans (HW4.out.astray HO.out))
                    go_wp2_with fail
                    go_ret
                    exact ⟨ret_int' HF.out.symm, hw2⟩
                  | false =>
                    have HW5 := Lib.hid (show PW5 b pre ⟨no, tm, paper, person, ans, words⟩ from ⟨HW4.out, has⟩)
                    clear has
                    by_cases hw0 : words.size = 0
                    · have he : words.toList = [] := toList_nil hw0
                      have H0 := Lib.hid hw0
                      clear hw0
                      have HF := Lib.hid (show er = _ from HER.out.trans (HW5.out.none H0.out))
                      go_wp2_with fail
                      go_ret
                      exact ⟨ret_int' HF.out.symm, hw2⟩
                    · have he : words.toList ≠ [] := toList_ne hw0
                      have hd : words.toList.isEmpty = false := by simpa using he
                      have H0 := Lib.hid hw0
                      clear hw0
                      go_wp2_with fail
                      refine (isText_any words _ hp3 (HG.out _ hx)).mono ?_
                      rintro e w7 ⟨rfl, hw7⟩
                      replace hx := hx.trans hw7
                      replace hw2 := hk1.trans hx
                      clear b0 b1 b2 b3 p0 p1 p2 p3 p4 p5
                      obtain ⟨b0, b1, b2, b3, p0, p1, p2, p3, p4, p5⟩ := HC.out _ hx
                      cases htx : isTextB words with
                      | false =>
                        have HT := Lib.hid htx
                        have HF := Lib.hid (show er = _ from HER.out.trans (HW5.out.form H0.out HT.out))
                        go_wp2_with fail
                        go_ret
                        exact ⟨ret_int' HF.out.symm, hw2⟩
                      | true =>
                        have HT := Lib.hid htx
                        clear htx
                        by_cases hbig : 4000 < words.size
                        · have dbig : decide ((4000 : Int) < (words.size : Int)) = true := by simp; omega
                          have HBG := Lib.hid hbig
                          clear hbig
                          have HF := Lib.hid (show er = _ from HER.out.trans (HW5.out.large H0.out HT.out HBG.out))
                          go_wp2_with fail
                          go_ret
                          exact ⟨ret_int' HF.out.symm, hw2⟩
                        · have dbig : decide ((4000 : Int) < (words.size : Int)) = false := by simp; omega
                          have HBG := Lib.hid hbig
                          clear hbig
                          have HF := Lib.hid (show er = _ from HER.out.trans (HW5.out.ok H0.out HT.out HBG.out))
                          go_wp2_with fail
                          go_ret
                          exact ⟨ret_int' HF.out.symm, hw2⟩
  · have dno : (no != (len : Int) + 1) = true := by simpa using hno
    have HNO := Lib.hid (show ¬ no = (pre.length : Int) + 1 by have := Hlen.out; omega)
    clear hno
    go_enter Tryz.func69, Tryz.ntmps69
    have HF := Lib.hid (show er = 1 from HER.out.trans (postF_no HNO.out))
    go_wp2_with fail
    go_ret
    exact ⟨ret_int' HF.out.symm, hk1⟩
set_option maxRecDepth 100000 in
set_option maxHeartbeats 12800000 in
theorem postFaultR_any (a0 : Option Addr) (l0 c0 : Nat) (a1 : Option Addr) (l1 c1 : Nat) (a2 : Option Addr) (l2 c2 : Nat) (a3 : Option Addr) (l3 c3 : Nat) (b : Board4) (a : Option Addr) (len cap : Nat) (pre : List Post6) (no tm : Int) (paper person : ByteArray) (ans : Int) (words : ByteArray) (w : World) (h : BoardIs w a0 l0 a1 l1 a2 l2 a3 l3 b) (hs : Sl RPost 6 (fun _ => True) w a len pre) (hl : len ≤ 1000000) (hp : PostSmall ⟨no, tm, paper, person, ans, words⟩) (hg : Tabs w) :
    Calls Tryz.prog 71 #[.agg #[.slice a0 l0 c0, .slice a1 l1 c1, .slice a2 l2 c2, .slice a3 l3 c3], .slice a len cap, .agg #[.int .i64 no, .int .i64 tm, .string paper, .string person, .int .i64 ans, .string words]] w fun e w' => e = .returned (.int .i64 (postF b pre ⟨no, tm, paper, person, ans, words⟩)) ∧ All w w' := by
  obtain ⟨hp1, hp2, hp3⟩ := hp
  dsimp only at hp1 hp2 hp3
  have hk1 : All w ((w.alloc (.cells #[.slice a0 l0 c0, .slice a1 l1 c1, .slice a2 l2 c2, .slice a3 l3 c3] 50)).alloc (.cells #[.int .i64 no, .int .i64 tm, .string paper, .string person, .int .i64 ans, .string words] 58)) := (Kept.alloc _ _ _).then_alloc _
  have hB := heap_old (.cells #[.int .i64 no, .int .i64 tm, .string paper, .string person, .int .i64 ans, .string words] 58) (heap_at w (.cells #[.slice a0 l0 c0, .slice a1 l1 c1, .slice a2 l2 c2, .slice a3 l3 c3] 50) _ rfl)
  have hP := heap_at (w.alloc (.cells #[.slice a0 l0 c0, .slice a1 l1 c1, .slice a2 l2 c2, .slice a3 l3 c3] 50)) (.cells #[.int .i64 no, .int .i64 tm, .string paper, .string person, .int .i64 ans, .string words] 58) _ rfl
  have Hlen := Lib.hid hs.len
  have HI := Lib.hid (fun (wx : World) (k : All ((w.alloc (.cells #[.slice a0 l0 c0, .slice a1 l1 c1, .slice a2 l2 c2, .slice a3 l3 c3] 50)).alloc (.cells #[.int .i64 no, .int .i64 tm, .string paper, .string person, .int .i64 ans, .string words] 58)) wx) => h.keep (hk1.trans k))
  have HS := Lib.hid (fun (wx : World) (k : All ((w.alloc (.cells #[.slice a0 l0 c0, .slice a1 l1 c1, .slice a2 l2 c2, .slice a3 l3 c3] 50)).alloc (.cells #[.int .i64 no, .int .i64 tm, .string paper, .string person, .int .i64 ans, .string words] 58)) wx) => hs.keep RPost.ok (hk1.trans k))
  have HG := Lib.hid (fun (wx : World) (k : All ((w.alloc (.cells #[.slice a0 l0 c0, .slice a1 l1 c1, .slice a2 l2 c2, .slice a3 l3 c3] 50)).alloc (.cells #[.int .i64 no, .int .i64 tm, .string paper, .string person, .int .i64 ans, .string words] 58)) wx) => hg.keep (hk1.trans k))
  have HC := Lib.hid (fun (wx : World) (k : All ((w.alloc (.cells #[.slice a0 l0 c0, .slice a1 l1 c1, .slice a2 l2 c2, .slice a3 l3 c3] 50)).alloc (.cells #[.int .i64 no, .int .i64 tm, .string paper, .string person, .int .i64 ans, .string words] 58)) wx) => (⟨k.cell (cell_at (i := 0) hB rfl) trivial, k.cell (cell_at (i := 1) hB rfl) trivial, k.cell (cell_at (i := 2) hB rfl) trivial, k.cell (cell_at (i := 3) hB rfl) trivial, k.cell (cell_at (i := 0) hP rfl) trivial, k.cell (cell_at (i := 1) hP rfl) trivial, k.cell (cell_at (i := 2) hP rfl) trivial, k.cell (cell_at (i := 3) hP rfl) trivial, k.cell (cell_at (i := 4) hP rfl) trivial, k.cell (cell_at (i := 5) hP rfl) trivial⟩ : _ ∧ _ ∧ _ ∧ _ ∧ _ ∧ _ ∧ _ ∧ _ ∧ _ ∧ _))
  obtain ⟨bb, hbb⟩ : ∃ k, k = w.heap.size := ⟨_, rfl⟩
  obtain ⟨pb, hpb⟩ : ∃ k, k = (w.alloc (.cells #[.slice a0 l0 c0, .slice a1 l1 c1, .slice a2 l2 c2, .slice a3 l3 c3] 50)).heap.size := ⟨_, rfl⟩
  have hk3 : bb + 1 = pb := by rw [hpb, hbb]; simp
  have HBB := Lib.hid hbb
  have HK3 := Lib.hid hk3
  rw [← hbb, ← hpb] at HC
  obtain ⟨er, her⟩ : ∃ e, e = postF b pre ⟨no, tm, paper, person, ans, words⟩ := ⟨_, rfl⟩
  have HER := Lib.hid her
  rw [← her]
  obtain ⟨b0, b1, b2, b3, p0, p1, p2, p3, p4, p5⟩ := HC.out _ (Kept.refl _ _)
  clear hB hP h hs hg hbb hpb hk3 her
  by_cases hno : no = (len : Int) + 1
  · have dno : (no != (len : Int) + 1) = false := by simpa using hno
    have HNO := Lib.hid (show no = (pre.length : Int) + 1 by rw [hno]; have := Hlen.out; omega)
    clear hno
    go_enter Tryz.func71, Tryz.ntmps71
    go_wp2_with fail
    simp only [← HBB.out, HK3.out]
    generalize (w.alloc (.cells #[.slice a0 l0 c0, .slice a1 l1 c1, .slice a2 l2 c2, .slice a3 l3 c3] 50)).alloc (.cells #[.int .i64 no, .int .i64 tm, .string paper, .string person, .int .i64 ans, .string words] 58) = w1 at *
    by_cases htm : tm < 0 ∨ 5761440 ≤ tm
    · have HTM := Lib.hid htm
      refine (moment_any _ _).mono ?_
      rintro e w' ⟨rfl, hh⟩
      subst hh
      rw [show decide (0 ≤ tm ∧ tm < 5761440) = false from by simp; omega]
      clear htm
      have HF := Lib.hid (show er = _ from HER.out.trans (postF_arg HNO.out HTM.out))
      go_wp2_with fail
      go_ret
      exact ⟨ret_int' HF.out.symm, hk1⟩
    · have HW1 := Lib.hid (show PW1 pre ⟨no, tm, paper, person, ans, words⟩ from ⟨HNO.out, htm⟩)
      refine (moment_any _ _).mono ?_
      rintro e w' ⟨rfl, hh⟩
      subst hh
      rw [show decide (0 ≤ tm ∧ tm < 5761440) = true from by simp; omega]
      clear htm dno
      go_wp2_with fail
      go_upto_region 4 with fail
      go_cut [20] (fun v wx => v = .bool (earlierP pre.getLast? ⟨no, tm, paper, person, ans, words⟩) ∧ All w1 wx)
      case first =>
        rcases Nat.eq_zero_or_pos len with h0 | h0
        · subst h0
          have hx : pre = [] := List.eq_nil_of_length_eq_zero Hlen.out
          have HO := Lib.hid (show earlierP pre.getLast? ⟨no, tm, paper, person, ans, words⟩ = false by rw [hx]; rfl)
          have hgd : decide ((0 : Int) < ((0 : Nat) : Int)) = false := by simp
          clear hx
          go_quiet (fail)
          go_wp2_with fail
          go_meet
          exact ⟨by rw [HO.out], Kept.drewN _ _ _⟩
        · obtain ⟨kp, rfl⟩ : ∃ kp, len = kp + 1 := ⟨len - 1, by omega⟩
          obtain ⟨bq, oq, y, haq, -, -, q1, -, -, -, -, -, hy, -⟩ := (HS.out _ (Kept.refl _ _)).atPost (k := kp) (by omega)
          subst haq
          have HO := Lib.hid (earlierP_last (x := ⟨no, tm, paper, person, ans, words⟩) Hlen.out hy)
          have f1 : IntKind.i64.wrap (kp : Int) = (kp : Int) := IntWalk.i64_in _ (by omega)
          have f3 : (0 : Int) ≤ (kp : Int) := by omega
          have f4 : (kp : Int) < ((kp + 1 : Nat) : Int) := by omega
          have f5 : ((kp + 1 : Nat) : Int) - 1 = (kp : Int) := by omega
          clear hy
          go_quiet (fail)
          go_wp2_with fail
          go_meet
          exact ⟨by rw [HO.out], Kept.drewN _ _ _⟩
      case rest =>
        obtain ⟨rfl, hx⟩ := hcut
        obtain ⟨w2, rfl⟩ : ∃ y : World, y = wc := ⟨_, rfl⟩
        clear b0 b1 b2 b3 p0 p1 p2 p3 p4 p5
        obtain ⟨b0, b1, b2, b3, p0, p1, p2, p3, p4, p5⟩ := HC.out _ hx
        have hw2 := hk1.trans hx
        cases hor : earlierP pre.getLast? ⟨no, tm, paper, person, ans, words⟩ with
        | true =>
          have HO := Lib.hid hor
          have HF := Lib.hid (show er = _ from HER.out.trans (HW1.out.order HO.out))
          go_wp2_with fail
          go_ret
          exact ⟨ret_int' HF.out.symm, hw2⟩
        | false =>
          have HW2 := Lib.hid (show PW2 pre ⟨no, tm, paper, person, ans, words⟩ from ⟨HW1.out, hor⟩)
          clear hor
          cases hk1b : isKeyB paper with
          | false =>
            go_wp2_with fail
            refine (key_any paper _ (by omega)).mono ?_
            rintro e w3 ⟨rfl, hw3⟩
            rw [hk1b]
            have HF := Lib.hid (show er = _ from HER.out.trans (HW2.out.name hk1b))
            go_wp2_with fail
            go_ret
            exact ⟨ret_int' HF.out.symm, hw2.trans hw3⟩
          | true =>
            go_wp2_with fail
            refine (key_any paper _ (by omega)).mono ?_
            rintro e w3 ⟨rfl, hw3⟩
            rw [hk1b]
            replace hx := hx.trans hw3
            replace hw2 := hk1.trans hx
            clear b0 b1 b2 b3 p0 p1 p2 p3 p4 p5
            obtain ⟨b0, b1, b2, b3, p0, p1, p2, p3, p4, p5⟩ := HC.out _ hx
            have HK1 := Lib.hid hk1b
            clear hk1b
            cases hk2b : isKeyB person with
            | false =>
              go_wp2_with fail
              refine (key_any person _ (by omega)).mono ?_
              rintro e w4 ⟨rfl, hw4⟩
              rw [hk2b]
              have HF := Lib.hid (show er = _ from HER.out.trans (HW2.out.name2 HK1.out hk2b))
              go_wp2_with fail
              go_ret
              exact ⟨ret_int' HF.out.symm, hw2.trans hw4⟩
            | true =>
              go_wp2_with fail
              refine (key_any person _ (by omega)).mono ?_
              rintro e w4 ⟨rfl, hw4⟩
              rw [hk2b]
              replace hx := hx.trans hw4
              replace hw2 := hk1.trans hx
              clear b0 b1 b2 b3 p0 p1 p2 p3 p4 p5
              obtain ⟨b0, b1, b2, b3, p0, p1, p2, p3, p4, p5⟩ := HC.out _ hx
              have HW3 := Lib.hid (show PW3 pre ⟨no, tm, paper, person, ans, words⟩ from ⟨HW2.out, HK1.out, hk2b⟩)
              clear hk2b
              go_wp2_with fail
              refine (mayOf_any a0 l0 c0 a1 l1 c1 a2 l2 c2 a3 l3 c3 b paper person tm _ (HI.out _ hx)).mono ?_
              rintro e w5 ⟨rfl, hw5⟩
              replace hx := hx.trans hw5
              replace hw2 := hk1.trans hx
              clear b0 b1 b2 b3 p0 p1 p2 p3 p4 p5
              obtain ⟨b0, b1, b2, b3, p0, p1, p2, p3, p4, p5⟩ := HC.out _ hx
              cases hmy : mayB b paper person tm with
              | false =>
                have HM := Lib.hid hmy
                have HF := Lib.hid (show er = _ from HER.out.trans (HW3.out.rule HM.out))
                go_wp2_with fail
                go_ret
                exact ⟨ret_int' HF.out.symm, hw2⟩
              | true =>
                have HW4 := Lib.hid (show PW4 b pre ⟨no, tm, paper, person, ans, words⟩ from ⟨HW3.out, hmy⟩)
                clear hmy
                go_wp2_with fail
                go_upto_region 10 with fail
                go_cut [58] (fun v wx => v = .bool (astray pre ⟨no, tm, paper, person, ans, words⟩) ∧ All w1 wx)
                case first =>
                  by_cases ha0 : ans = 0
                  · have d0 : (ans != 0) = false := by simpa using ha0
                    have HO := Lib.hid (show astray pre ⟨no, tm, paper, person, ans, words⟩ = false from astray_zero ha0)
                    clear ha0
                    go_quiet (fail)
                    go_wp2_with fail
                    go_meet
                    exact ⟨by rw [HO.out]; first | done | exact congrArg Value.bool dpp, hx.then_drewN _⟩
                  · have d0 : (ans != 0) = true := by simpa using ha0
                    by_cases hout : ans < 1 ∨ (len : Int) < ans
                    · have HO := Lib.hid (show astray pre ⟨no, tm, paper, person, ans, words⟩ = true from astray_out ha0 (by have := Hlen.out; dsimp only; omega))
                      have HD := Lib.hid (show decide (1 ≤ ans ∧ ans ≤ (len : Int)) = false by simp; omega)
                      have HQ := Lib.hid (fun wx => in_any ans 1 (len : Int) wx)
                      rw [HD.out] at HQ
                      clear ha0 hout
                      go_quiet ((go_at_call 81; exact Calls.quiet_of_same ((HQ.out _).mono (fun e w' h => ⟨h.1, h.2.symm⟩))))
                      go_wp2_with fail
                      go_meet
                      exact ⟨by rw [HO.out]; first | done | exact congrArg Value.bool dpp, hx.then_drewN _⟩
                    · obtain ⟨j, hj⟩ : ∃ j : Nat, ans = (j : Int) + 1 := ⟨(ans - 1).toNat, by omega⟩
                      obtain ⟨bq, oq, y, haq, -, -, -, q2, -, -, -, -, hy, -⟩ := (HS.out _ hx).atPost (k := j) (by omega)
                      subst haq
                      have HA := Lib.hid (show astray pre ⟨no, tm, paper, person, ans, words⟩ = decide (y.paper ≠ paper) from astray_at hj hy)
                      have HD := Lib.hid (show decide (1 ≤ ans ∧ ans ≤ (len : Int)) = true by simp; omega)
                      have HQ := Lib.hid (fun wx => in_any ans 1 (len : Int) wx)
                      rw [HD.out] at HQ
                      subst hj
                      have hjl : (j : Int) < (len : Int) := by omega
                      have f1 : IntKind.i64.wrap ((j : Int) + 1 - 1) = (j : Int) := by rw [show (j : Int) + 1 - 1 = (j : Int) by omega]; exact IntWalk.i64_in _ (by omega)
                      have f2 : (j : Int) + 1 - 1 = (j : Int) := by omega
                      have f3 : (0 : Int) ≤ (j : Int) := by omega
                      clear ha0 hout hy
                      by_cases hpp : y.paper = paper
                      · have dpp : (y.paper.toList != paper.toList) = false := by simp [hpp]
                        have HO := Lib.hid (show astray pre ⟨no, tm, paper, person, (j : Int) + 1, words⟩ = false by rw [HA.out]; simp [hpp])
                        clear hpp
                        go_quiet ((go_at_call 81; exact Calls.quiet_of_same ((HQ.out _).mono (fun e w' h => ⟨h.1, h.2.symm⟩))))
                        go_wp2_with fail
                        go_meet
                        exact ⟨by rw [HO.out]; first | done | exact congrArg Value.bool dpp, hx.then_drewN _⟩
                      · have dpp : (y.paper.toList != paper.toList) = true := by have := bytes_ne hpp; simp only [bne, this, Bool.not_false]
                        have HO := Lib.hid (show astray pre ⟨no, tm, paper, person, (j : Int) + 1, words⟩ = true by rw [HA.out]; simp [hpp])
                        clear hpp
                        go_quiet ((go_at_call 81; exact Calls.quiet_of_same ((HQ.out _).mono (fun e w' h => ⟨h.1, h.2.symm⟩))))
                        go_wp2_with fail
                        go_meet
                        exact ⟨by rw [HO.out]; first | done | exact congrArg Value.bool dpp, hx.then_drewN _⟩
                case rest =>
                  clear hx
                  obtain ⟨rfl, hx⟩ := hcut
                  obtain ⟨w6, rfl⟩ : ∃ y : World, y = wc := ⟨_, rfl⟩
                  clear b0 b1 b2 b3 p0 p1 p2 p3 p4 p5
                  obtain ⟨b0, b1, b2, b3, p0, p1, p2, p3, p4, p5⟩ := HC.out _ hx
                  replace hw2 := hk1.trans hx
                  cases has : astray pre ⟨no, tm, paper, person, ans, words⟩ with
                  | true =>
                    have HO := Lib.hid has
                    have HF := Lib.hid (show er = _ from HER.out.trans (HW4.out.astray HO.out))
                    go_wp2_with fail
                    go_ret
                    exact ⟨ret_int' HF.out.symm, hw2⟩
                  | false =>
                    have HW5 := Lib.hid (show PW5 b pre ⟨no, tm, paper, person, ans, words⟩ from ⟨HW4.out, has⟩)
                    clear has
                    by_cases hw0 : words.size = 0
                    · have he : words.toList = [] := toList_nil hw0
                      have H0 := Lib.hid hw0
                      clear hw0
                      have HF := Lib.hid (show er = _ from HER.out.trans (HW5.out.none H0.out))
                      go_wp2_with fail
                      go_ret
                      exact ⟨ret_int' HF.out.symm, hw2⟩
                    · have he : words.toList ≠ [] := toList_ne hw0
                      have hd : words.toList.isEmpty = false := by simpa using he
                      have H0 := Lib.hid hw0
                      clear hw0
                      go_wp2_with fail
                      refine (isTextR_any words _ hp3 (HG.out _ hx)).mono ?_
                      rintro e w7 ⟨rfl, hw7⟩
                      replace hx := hx.trans hw7
                      replace hw2 := hk1.trans hx
                      clear b0 b1 b2 b3 p0 p1 p2 p3 p4 p5
                      obtain ⟨b0, b1, b2, b3, p0, p1, p2, p3, p4, p5⟩ := HC.out _ hx
                      cases htx : isTextB words with
                      | false =>
                        have HT := Lib.hid htx
                        have HF := Lib.hid (show er = _ from HER.out.trans (HW5.out.form H0.out HT.out))
                        go_wp2_with fail
                        go_ret
                        exact ⟨ret_int' HF.out.symm, hw2⟩
                      | true =>
                        have HT := Lib.hid htx
                        clear htx
                        by_cases hbig : 4000 < words.size
                        · have dbig : decide ((4000 : Int) < (words.size : Int)) = true := by simp; omega
                          have HBG := Lib.hid hbig
                          clear hbig
                          have HF := Lib.hid (show er = _ from HER.out.trans (HW5.out.large H0.out HT.out HBG.out))
                          go_wp2_with fail
                          go_ret
                          exact ⟨ret_int' HF.out.symm, hw2⟩
                        · have dbig : decide ((4000 : Int) < (words.size : Int)) = false := by simp; omega
                          have HBG := Lib.hid hbig
                          clear hbig
                          have HF := Lib.hid (show er = _ from HER.out.trans (HW5.out.ok H0.out HT.out HBG.out))
                          go_wp2_with fail
                          go_ret
                          exact ⟨ret_int' HF.out.symm, hw2⟩
  · have dno : (no != (len : Int) + 1) = true := by simpa using hno
    have HNO := Lib.hid (show ¬ no = (pre.length : Int) + 1 by have := Hlen.out; omega)
    clear hno
    go_enter Tryz.func71, Tryz.ntmps71
    have HF := Lib.hid (show er = 1 from HER.out.trans (postF_no HNO.out))
    go_wp2_with fail
    go_ret
    exact ⟨ret_int' HF.out.symm, hk1⟩
end Go.Proofs.YtllkemadaemjeaaGreatDoor

/- CheckPosts and PostsFault answer postsF. -/
namespace Go.Proofs.YtllkemadaemjeaaGreatDoor
open Go.RowKit

set_option maxRecDepth 100000 in
set_option maxHeartbeats 12800000 in
theorem checkPosts_any (a0 : Option Addr) (l0 c0 : Nat) (a1 : Option Addr) (l1 c1 : Nat) (a2 : Option Addr) (l2 c2 : Nat) (a3 : Option Addr) (l3 c3 : Nat) (b : Board4) (a : Option Addr) (len cap : Nat) (xs : List Post6) (w : World) (h : BoardIs w a0 l0 a1 l1 a2 l2 a3 l3 b) (hs : Sl RPost 6 (fun _ => True) w a len xs) (hl : len ≤ 1000000) (hcap : len ≤ cap) (hg : Tabs w) :
    Calls Tryz.prog 27 #[.agg #[.slice a0 l0 c0, .slice a1 l1 c1, .slice a2 l2 c2, .slice a3 l3 c3], .slice a len cap] w fun e w' => e = .returned (.int .i64 (postsF b xs)) ∧ All w w' := by
  have hk1 : All w (w.alloc (.cells #[.slice a0 l0 c0, .slice a1 l1 c1, .slice a2 l2 c2, .slice a3 l3 c3] 50)) := Kept.alloc _ _ _
  have hB := heap_at w (.cells #[.slice a0 l0 c0, .slice a1 l1 c1, .slice a2 l2 c2, .slice a3 l3 c3] 50) _ rfl
  have Hlen := Lib.hid hs.len
  have HI := Lib.hid (fun (wx : World) (k : All (w.alloc (.cells #[.slice a0 l0 c0, .slice a1 l1 c1, .slice a2 l2 c2, .slice a3 l3 c3] 50)) wx) => h.keep (hk1.trans k))
  have HS := Lib.hid (fun (wx : World) (k : All (w.alloc (.cells #[.slice a0 l0 c0, .slice a1 l1 c1, .slice a2 l2 c2, .slice a3 l3 c3] 50)) wx) => hs.keep RPost.ok (hk1.trans k))
  have HG := Lib.hid (fun (wx : World) (k : All (w.alloc (.cells #[.slice a0 l0 c0, .slice a1 l1 c1, .slice a2 l2 c2, .slice a3 l3 c3] 50)) wx) => hg.keep (hk1.trans k))
  have HC := Lib.hid (fun (wx : World) (k : All (w.alloc (.cells #[.slice a0 l0 c0, .slice a1 l1 c1, .slice a2 l2 c2, .slice a3 l3 c3] 50)) wx) => (⟨k.cell (cell_at (i := 0) hB rfl) trivial, k.cell (cell_at (i := 1) hB rfl) trivial, k.cell (cell_at (i := 2) hB rfl) trivial, k.cell (cell_at (i := 3) hB rfl) trivial⟩ : _ ∧ _ ∧ _ ∧ _))
  obtain ⟨bb, hbb⟩ : ∃ k, k = w.heap.size := ⟨_, rfl⟩
  have HBB := Lib.hid hbb
  rw [← hbb] at HC
  obtain ⟨er, her⟩ : ∃ e, e = postsF b xs := ⟨_, rfl⟩
  have HER := Lib.hid her
  rw [← her]
  obtain ⟨fb, hfb⟩ : ∃ e, e = boardF b := ⟨_, rfl⟩
  have HFB := Lib.hid hfb
  obtain ⟨b0, b1, b2, b3⟩ := HC.out _ (Kept.refl _ _)
  clear hB h hs hg hbb her hfb
  go_enter Tryz.func27, Tryz.ntmps27
  go_wp2_with fail
  simp only [← HBB.out]
  generalize w.alloc (.cells #[.slice a0 l0 c0, .slice a1 l1 c1, .slice a2 l2 c2, .slice a3 l3 c3] 50) = w1 at *
  refine (checkBoard_any a0 l0 c0 a1 l1 c1 a2 l2 c2 a3 l3 c3 b _ (HI.out _ (Kept.refl _ _))).mono ?_
  rintro e w2 ⟨rfl, hw2⟩
  rw [← HFB.out]
  clear b0 b1 b2 b3
  obtain ⟨b0, b1, b2, b3⟩ := HC.out _ hw2
  by_cases hf0 : fb = 0
  · have HF0 := Lib.hid (show boardF b = 0 from HFB.out.symm.trans hf0)
    subst hf0
    have HRI := Lib.hid (boardF_rises HF0.out)
    by_cases hbig : 2000 < len
    · have hd : decide ((2000 : Int) < (len : Int)) = true := by simp; omega
      have HF := Lib.hid (show er = 2 from HER.out.trans (postsF_large HF0.out (by have := Hlen.out; omega)))
      go_wp2_with fail
      go_ret
      exact ⟨ret_int' HF.out.symm, hk1.trans hw2⟩
    · have hd : decide ((2000 : Int) < (len : Int)) = false := by simp; omega
      have HSO := Lib.hid (show er = postsG b [] xs from HER.out.trans (postsF_some HF0.out (by have := Hlen.out; omega)))
      clear b0 b1 b2 b3
      go_wp2_with fail
      go_loopw [19] (fun i wr => ∃ k : Nat, k ≤ len ∧ i = .int .i64 k ∧ PostsAt b xs k ∧ All w1 wr) (fun i _ => len - (intOf i).toNat)
      case atStart => exact ⟨0, Nat.zero_le _, rfl, PostsAt.zero _ _, hw2⟩
      case round =>
        obtain ⟨k, hk, rfl, hat, hwr⟩ := hrel
        obtain ⟨wo, rfl⟩ : ∃ wo : World, wo = wr := ⟨_, rfl⟩
        have HA := Lib.hid hat
        clear hat
        by_cases hlt : k < len
        · have hsk := HS.out _ hwr
          obtain ⟨bq, oq, x, haq, -, q0, q1, q2, q3, q4, q5, hsm, hx, -⟩ := hsk.atPost hlt
          subst haq
          have HX := Lib.hid hx
          have hka : All wo (wo.alloc (.cells #[.int .i64 x.no, .int .i64 x.tm, .string x.paper, .string x.person, .int .i64 x.ans, .string x.words] 58)) := Kept.alloc _ _ _
          have hblk := heap_at wo (.cells #[.int .i64 x.no, .int .i64 x.tm, .string x.paper, .string x.person, .int .i64 x.ans, .string x.words] 58) _ rfl
          have hwa := hwr.trans hka
          have HPF := Lib.hid (fun (wx : World) (k' : All (wo.alloc (.cells #[.int .i64 x.no, .int .i64 x.tm, .string x.paper, .string x.person, .int .i64 x.ans, .string x.words] 58)) wx) => postFault_any a0 l0 c0 a1 l1 c1 a2 l2 c2 a3 l3 c3 b (some ⟨bq, oq, none⟩) k cap (xs.take k) x.no x.tm x.paper x.person x.ans x.words wx (HI.out _ (hwa.trans k')) HRI.out.1 HRI.out.2 ((hsk.keep RPost.ok (hka.trans k')).take (by omega)) (by omega) hsm (HG.out _ (hwa.trans k')))
          obtain ⟨b0, b1, b2, b3⟩ := HC.out _ hwa
          have p0 := cell_at (i := 0) hblk rfl
          have p1 := cell_at (i := 1) hblk rfl
          have p2 := cell_at (i := 2) hblk rfl
          have p3 := cell_at (i := 3) hblk rfl
          have p4 := cell_at (i := 4) hblk rfl
          have p5 := cell_at (i := 5) hblk rfl
          obtain ⟨xb, hxb⟩ : ∃ k, k = wo.heap.size := ⟨_, rfl⟩
          have HXB := Lib.hid hxb
          rw [← hxb] at p0 p1 p2 p3 p4 p5
          obtain ⟨ef, hef⟩ : ∃ e, e = postF b (xs.take k) ⟨x.no, x.tm, x.paper, x.person, x.ans, x.words⟩ := ⟨_, rfl⟩
          have HEF := Lib.hid hef
          rw [← hef] at HPF
          clear hx hblk hsk hxb hef hka hsm
          by_cases he0 : ef = 0
          · have HNX := Lib.hid (HA.out.next HX.out (HEF.out.symm.trans he0))
            subst he0
            go_wp2_with fail
            simp only [← HXB.out]
            generalize wo.alloc (.cells #[.int .i64 x.no, .int .i64 x.tm, .string x.paper, .string x.person, .int .i64 x.ans, .string x.words] 58) = wa at *
            clear q0 q1 q2 q3 q4 q5
            have hS1 : (0 : Int) ≤ (k : Int) := by omega
            have hS2 : (k : Int) ≤ (cap : Int) := by omega
            go_region_held3 (fun w' => w'.cell? ⟨bb, 0, none⟩ = some (.slice a0 l0 c0) ∧ w'.cell? ⟨bb, 1, none⟩ = some (.slice a1 l1 c1) ∧ w'.cell? ⟨bb, 2, none⟩ = some (.slice a2 l2 c2) ∧ w'.cell? ⟨bb, 3, none⟩ = some (.slice a3 l3 c3) ∧ w'.cell? ⟨xb, 0, none⟩ = some (.int .i64 x.no) ∧ w'.cell? ⟨xb, 1, none⟩ = some (.int .i64 x.tm) ∧ w'.cell? ⟨xb, 2, none⟩ = some (.string x.paper) ∧ w'.cell? ⟨xb, 3, none⟩ = some (.string x.person) ∧ w'.cell? ⟨xb, 4, none⟩ = some (.int .i64 x.ans) ∧ w'.cell? ⟨xb, 5, none⟩ = some (.string x.words)) (first | go_keep | exact ⟨by assumption, by assumption, by assumption, by assumption, by assumption, by assumption, by assumption, by assumption, by assumption, by assumption⟩) (first | (go_at_call 69; refine (HPF.out _ (by repeat (first | exact Kept.refl _ _ | refine Kept.then_drew ?_ | refine Kept.then_drewN ?_ _ | refine Kept.then_alloc ?_ _))).mono ?_; rintro e wq ⟨rfl, hq⟩; have hp1 : All wa wq := Kept.trans (by repeat (first | exact Kept.refl _ _ | refine Kept.then_drew ?_ | refine Kept.then_drewN ?_ _ | refine Kept.then_alloc ?_ _)) hq; have s0 := hp1.cell b0 trivial; have s1 := hp1.cell b1 trivial; have s2 := hp1.cell b2 trivial; have s3 := hp1.cell b3 trivial; have s4 := hp1.cell p0 trivial; have s5 := hp1.cell p1 trivial; have s6 := hp1.cell p2 trivial; have s7 := hp1.cell p3 trivial; have s8 := hp1.cell p4 trivial; have s9 := hp1.cell p5 trivial))
            go_wp2_with fail
            go_roundw
            case rel => exact ⟨k + 1, by omega, by go_num, HNX.out, hwa.trans hp1⟩
            case measure => simp [intOf]; omega
          · have hne : (ef != 0) = true := by simpa using he0
            have HBD := Lib.hid (show er = ef from HSO.out.trans (HA.out.bad HX.out HEF.out.symm he0))
            clear he0
            go_wp2_with fail
            simp only [← HXB.out]
            generalize wo.alloc (.cells #[.int .i64 x.no, .int .i64 x.tm, .string x.paper, .string x.person, .int .i64 x.ans, .string x.words] 58) = wa at *
            clear q0 q1 q2 q3 q4 q5
            have hS1 : (0 : Int) ≤ (k : Int) := by omega
            have hS2 : (k : Int) ≤ (cap : Int) := by omega
            go_region_held3 (fun w' => w'.cell? ⟨bb, 0, none⟩ = some (.slice a0 l0 c0) ∧ w'.cell? ⟨bb, 1, none⟩ = some (.slice a1 l1 c1) ∧ w'.cell? ⟨bb, 2, none⟩ = some (.slice a2 l2 c2) ∧ w'.cell? ⟨bb, 3, none⟩ = some (.slice a3 l3 c3) ∧ w'.cell? ⟨xb, 0, none⟩ = some (.int .i64 x.no) ∧ w'.cell? ⟨xb, 1, none⟩ = some (.int .i64 x.tm) ∧ w'.cell? ⟨xb, 2, none⟩ = some (.string x.paper) ∧ w'.cell? ⟨xb, 3, none⟩ = some (.string x.person) ∧ w'.cell? ⟨xb, 4, none⟩ = some (.int .i64 x.ans) ∧ w'.cell? ⟨xb, 5, none⟩ = some (.string x.words)) (first | go_keep | exact ⟨by assumption, by assumption, by assumption, by assumption, by assumption, by assumption, by assumption, by assumption, by assumption, by assumption⟩) (first | (go_at_call 69; refine (HPF.out _ (by repeat (first | exact Kept.refl _ _ | refine Kept.then_drew ?_ | refine Kept.then_drewN ?_ _ | refine Kept.then_alloc ?_ _))).mono ?_; rintro e wq ⟨rfl, hq⟩; have hp1 : All wa wq := Kept.trans (by repeat (first | exact Kept.refl _ _ | refine Kept.then_drew ?_ | refine Kept.then_drewN ?_ _ | refine Kept.then_alloc ?_ _)) hq; have s0 := hp1.cell b0 trivial; have s1 := hp1.cell b1 trivial; have s2 := hp1.cell b2 trivial; have s3 := hp1.cell b3 trivial; have s4 := hp1.cell p0 trivial; have s5 := hp1.cell p1 trivial; have s6 := hp1.cell p2 trivial; have s7 := hp1.cell p3 trivial; have s8 := hp1.cell p4 trivial; have s9 := hp1.cell p5 trivial))
            go_wp2_with fail
            go_ret
            exact ⟨ret_int' HBD.out.symm, hk1.trans (hwa.trans hp1)⟩
        · have hdk : decide ((k : Int) < (len : Int)) = false := by simp; omega
          have HOK := Lib.hid (show er = 0 from HSO.out.trans (HA.out.ok (by have := Hlen.out; omega)))
          go_wp2_with fail
          go_ret
          exact ⟨ret_int' HOK.out.symm, hk1.trans hwr⟩
  · have hne : (fb != 0) = true := by simpa using hf0
    have HF := Lib.hid (show er = fb from HER.out.trans ((postsF_board (by rw [← HFB.out]; exact hf0)).trans HFB.out.symm))
    clear hf0
    go_wp2_with fail
    go_ret
    exact ⟨ret_int' HF.out.symm, hk1.trans hw2⟩

set_option maxRecDepth 100000 in
set_option maxHeartbeats 12800000 in
theorem postsFault_any (a0 : Option Addr) (l0 c0 : Nat) (a1 : Option Addr) (l1 c1 : Nat) (a2 : Option Addr) (l2 c2 : Nat) (a3 : Option Addr) (l3 c3 : Nat) (b : Board4) (a : Option Addr) (len cap : Nat) (xs : List Post6) (w : World) (h : BoardIs w a0 l0 a1 l1 a2 l2 a3 l3 b) (hc3 : l3 ≤ c3) (hs : Sl RPost 6 (fun _ => True) w a len xs) (hl : len ≤ 1000000) (hcap : len ≤ cap) (hg : Tabs w) :
    Calls Tryz.prog 26 #[.agg #[.slice a0 l0 c0, .slice a1 l1 c1, .slice a2 l2 c2, .slice a3 l3 c3], .slice a len cap] w fun e w' => e = .returned (.int .i64 (postsF b xs)) ∧ All w w' := by
  have hk1 : All w (w.alloc (.cells #[.slice a0 l0 c0, .slice a1 l1 c1, .slice a2 l2 c2, .slice a3 l3 c3] 50)) := Kept.alloc _ _ _
  have hB := heap_at w (.cells #[.slice a0 l0 c0, .slice a1 l1 c1, .slice a2 l2 c2, .slice a3 l3 c3] 50) _ rfl
  have Hlen := Lib.hid hs.len
  have HI := Lib.hid (fun (wx : World) (k : All (w.alloc (.cells #[.slice a0 l0 c0, .slice a1 l1 c1, .slice a2 l2 c2, .slice a3 l3 c3] 50)) wx) => h.keep (hk1.trans k))
  have HS := Lib.hid (fun (wx : World) (k : All (w.alloc (.cells #[.slice a0 l0 c0, .slice a1 l1 c1, .slice a2 l2 c2, .slice a3 l3 c3] 50)) wx) => hs.keep RPost.ok (hk1.trans k))
  have HG := Lib.hid (fun (wx : World) (k : All (w.alloc (.cells #[.slice a0 l0 c0, .slice a1 l1 c1, .slice a2 l2 c2, .slice a3 l3 c3] 50)) wx) => hg.keep (hk1.trans k))
  have HC := Lib.hid (fun (wx : World) (k : All (w.alloc (.cells #[.slice a0 l0 c0, .slice a1 l1 c1, .slice a2 l2 c2, .slice a3 l3 c3] 50)) wx) => (⟨k.cell (cell_at (i := 0) hB rfl) trivial, k.cell (cell_at (i := 1) hB rfl) trivial, k.cell (cell_at (i := 2) hB rfl) trivial, k.cell (cell_at (i := 3) hB rfl) trivial⟩ : _ ∧ _ ∧ _ ∧ _))
  obtain ⟨bb, hbb⟩ : ∃ k, k = w.heap.size := ⟨_, rfl⟩
  have HBB := Lib.hid hbb
  rw [← hbb] at HC
  obtain ⟨er, her⟩ : ∃ e, e = postsF b xs := ⟨_, rfl⟩
  have HER := Lib.hid her
  rw [← her]
  obtain ⟨fb, hfb⟩ : ∃ e, e = boardF b := ⟨_, rfl⟩
  have HFB := Lib.hid hfb
  obtain ⟨b0, b1, b2, b3⟩ := HC.out _ (Kept.refl _ _)
  clear hB h hs hg hbb her hfb
  go_enter Tryz.func26, Tryz.ntmps26
  go_wp2_with fail
  simp only [← HBB.out]
  generalize w.alloc (.cells #[.slice a0 l0 c0, .slice a1 l1 c1, .slice a2 l2 c2, .slice a3 l3 c3] 50) = w1 at *
  refine (boardFault_any a0 l0 c0 a1 l1 c1 a2 l2 c2 a3 l3 c3 b _ (HI.out _ (Kept.refl _ _)) hc3).mono ?_
  rintro e w2 ⟨rfl, hw2⟩
  rw [← HFB.out]
  clear b0 b1 b2 b3
  obtain ⟨b0, b1, b2, b3⟩ := HC.out _ hw2
  by_cases hf0 : fb = 0
  · have HF0 := Lib.hid (show boardF b = 0 from HFB.out.symm.trans hf0)
    subst hf0
    by_cases hbig : 2000 < len
    · have hd : decide ((2000 : Int) < (len : Int)) = true := by simp; omega
      have HF := Lib.hid (show er = 2 from HER.out.trans (postsF_large HF0.out (by have := Hlen.out; omega)))
      go_wp2_with fail
      go_ret
      exact ⟨ret_int' HF.out.symm, hk1.trans hw2⟩
    · have hd : decide ((2000 : Int) < (len : Int)) = false := by simp; omega
      have HSO := Lib.hid (show er = postsG b [] xs from HER.out.trans (postsF_some HF0.out (by have := Hlen.out; omega)))
      clear b0 b1 b2 b3
      go_wp2_with fail
      go_loopw [19] (fun i wr => ∃ k : Nat, k ≤ len ∧ i = .int .i64 k ∧ PostsAt b xs k ∧ All w1 wr) (fun i _ => len - (intOf i).toNat)
      case atStart => exact ⟨0, Nat.zero_le _, rfl, PostsAt.zero _ _, hw2⟩
      case round =>
        obtain ⟨k, hk, rfl, hat, hwr⟩ := hrel
        obtain ⟨wo, rfl⟩ : ∃ wo : World, wo = wr := ⟨_, rfl⟩
        have HA := Lib.hid hat
        clear hat
        by_cases hlt : k < len
        · have hsk := HS.out _ hwr
          obtain ⟨bq, oq, x, haq, -, q0, q1, q2, q3, q4, q5, hsm, hx, -⟩ := hsk.atPost hlt
          subst haq
          have HX := Lib.hid hx
          have hka : All wo (wo.alloc (.cells #[.int .i64 x.no, .int .i64 x.tm, .string x.paper, .string x.person, .int .i64 x.ans, .string x.words] 58)) := Kept.alloc _ _ _
          have hblk := heap_at wo (.cells #[.int .i64 x.no, .int .i64 x.tm, .string x.paper, .string x.person, .int .i64 x.ans, .string x.words] 58) _ rfl
          have hwa := hwr.trans hka
          have HPF := Lib.hid (fun (wx : World) (k' : All (wo.alloc (.cells #[.int .i64 x.no, .int .i64 x.tm, .string x.paper, .string x.person, .int .i64 x.ans, .string x.words] 58)) wx) => postFaultR_any a0 l0 c0 a1 l1 c1 a2 l2 c2 a3 l3 c3 b (some ⟨bq, oq, none⟩) k cap (xs.take k) x.no x.tm x.paper x.person x.ans x.words wx (HI.out _ (hwa.trans k')) ((hsk.keep RPost.ok (hka.trans k')).take (by omega)) (by omega) hsm (HG.out _ (hwa.trans k')))
          obtain ⟨b0, b1, b2, b3⟩ := HC.out _ hwa
          have p0 := cell_at (i := 0) hblk rfl
          have p1 := cell_at (i := 1) hblk rfl
          have p2 := cell_at (i := 2) hblk rfl
          have p3 := cell_at (i := 3) hblk rfl
          have p4 := cell_at (i := 4) hblk rfl
          have p5 := cell_at (i := 5) hblk rfl
          obtain ⟨xb, hxb⟩ : ∃ k, k = wo.heap.size := ⟨_, rfl⟩
          have HXB := Lib.hid hxb
          rw [← hxb] at p0 p1 p2 p3 p4 p5
          obtain ⟨ef, hef⟩ : ∃ e, e = postF b (xs.take k) ⟨x.no, x.tm, x.paper, x.person, x.ans, x.words⟩ := ⟨_, rfl⟩
          have HEF := Lib.hid hef
          rw [← hef] at HPF
          clear hx hblk hsk hxb hef hka hsm
          by_cases he0 : ef = 0
          · have HNX := Lib.hid (HA.out.next HX.out (HEF.out.symm.trans he0))
            subst he0
            go_wp2_with fail
            simp only [← HXB.out]
            generalize wo.alloc (.cells #[.int .i64 x.no, .int .i64 x.tm, .string x.paper, .string x.person, .int .i64 x.ans, .string x.words] 58) = wa at *
            clear q0 q1 q2 q3 q4 q5
            have hS1 : (0 : Int) ≤ (k : Int) := by omega
            have hS2 : (k : Int) ≤ (cap : Int) := by omega
            go_region_held3 (fun w' => w'.cell? ⟨bb, 0, none⟩ = some (.slice a0 l0 c0) ∧ w'.cell? ⟨bb, 1, none⟩ = some (.slice a1 l1 c1) ∧ w'.cell? ⟨bb, 2, none⟩ = some (.slice a2 l2 c2) ∧ w'.cell? ⟨bb, 3, none⟩ = some (.slice a3 l3 c3) ∧ w'.cell? ⟨xb, 0, none⟩ = some (.int .i64 x.no) ∧ w'.cell? ⟨xb, 1, none⟩ = some (.int .i64 x.tm) ∧ w'.cell? ⟨xb, 2, none⟩ = some (.string x.paper) ∧ w'.cell? ⟨xb, 3, none⟩ = some (.string x.person) ∧ w'.cell? ⟨xb, 4, none⟩ = some (.int .i64 x.ans) ∧ w'.cell? ⟨xb, 5, none⟩ = some (.string x.words)) (first | go_keep | exact ⟨by assumption, by assumption, by assumption, by assumption, by assumption, by assumption, by assumption, by assumption, by assumption, by assumption⟩) (first | (go_at_call 71; refine (HPF.out _ (by repeat (first | exact Kept.refl _ _ | refine Kept.then_drew ?_ | refine Kept.then_drewN ?_ _ | refine Kept.then_alloc ?_ _))).mono ?_; rintro e wq ⟨rfl, hq⟩; have hp1 : All wa wq := Kept.trans (by repeat (first | exact Kept.refl _ _ | refine Kept.then_drew ?_ | refine Kept.then_drewN ?_ _ | refine Kept.then_alloc ?_ _)) hq; have s0 := hp1.cell b0 trivial; have s1 := hp1.cell b1 trivial; have s2 := hp1.cell b2 trivial; have s3 := hp1.cell b3 trivial; have s4 := hp1.cell p0 trivial; have s5 := hp1.cell p1 trivial; have s6 := hp1.cell p2 trivial; have s7 := hp1.cell p3 trivial; have s8 := hp1.cell p4 trivial; have s9 := hp1.cell p5 trivial))
            go_wp2_with fail
            go_roundw
            case rel => exact ⟨k + 1, by omega, by go_num, HNX.out, hwa.trans hp1⟩
            case measure => simp [intOf]; omega
          · have hne : (ef != 0) = true := by simpa using he0
            have HBD := Lib.hid (show er = ef from HSO.out.trans (HA.out.bad HX.out HEF.out.symm he0))
            clear he0
            go_wp2_with fail
            simp only [← HXB.out]
            generalize wo.alloc (.cells #[.int .i64 x.no, .int .i64 x.tm, .string x.paper, .string x.person, .int .i64 x.ans, .string x.words] 58) = wa at *
            clear q0 q1 q2 q3 q4 q5
            have hS1 : (0 : Int) ≤ (k : Int) := by omega
            have hS2 : (k : Int) ≤ (cap : Int) := by omega
            go_region_held3 (fun w' => w'.cell? ⟨bb, 0, none⟩ = some (.slice a0 l0 c0) ∧ w'.cell? ⟨bb, 1, none⟩ = some (.slice a1 l1 c1) ∧ w'.cell? ⟨bb, 2, none⟩ = some (.slice a2 l2 c2) ∧ w'.cell? ⟨bb, 3, none⟩ = some (.slice a3 l3 c3) ∧ w'.cell? ⟨xb, 0, none⟩ = some (.int .i64 x.no) ∧ w'.cell? ⟨xb, 1, none⟩ = some (.int .i64 x.tm) ∧ w'.cell? ⟨xb, 2, none⟩ = some (.string x.paper) ∧ w'.cell? ⟨xb, 3, none⟩ = some (.string x.person) ∧ w'.cell? ⟨xb, 4, none⟩ = some (.int .i64 x.ans) ∧ w'.cell? ⟨xb, 5, none⟩ = some (.string x.words)) (first | go_keep | exact ⟨by assumption, by assumption, by assumption, by assumption, by assumption, by assumption, by assumption, by assumption, by assumption, by assumption⟩) (first | (go_at_call 71; refine (HPF.out _ (by repeat (first | exact Kept.refl _ _ | refine Kept.then_drew ?_ | refine Kept.then_drewN ?_ _ | refine Kept.then_alloc ?_ _))).mono ?_; rintro e wq ⟨rfl, hq⟩; have hp1 : All wa wq := Kept.trans (by repeat (first | exact Kept.refl _ _ | refine Kept.then_drew ?_ | refine Kept.then_drewN ?_ _ | refine Kept.then_alloc ?_ _)) hq; have s0 := hp1.cell b0 trivial; have s1 := hp1.cell b1 trivial; have s2 := hp1.cell b2 trivial; have s3 := hp1.cell b3 trivial; have s4 := hp1.cell p0 trivial; have s5 := hp1.cell p1 trivial; have s6 := hp1.cell p2 trivial; have s7 := hp1.cell p3 trivial; have s8 := hp1.cell p4 trivial; have s9 := hp1.cell p5 trivial))
            go_wp2_with fail
            go_ret
            exact ⟨ret_int' HBD.out.symm, hk1.trans (hwa.trans hp1)⟩
        · have hdk : decide ((k : Int) < (len : Int)) = false := by simp; omega
          have HOK := Lib.hid (show er = 0 from HSO.out.trans (HA.out.ok (by have := Hlen.out; omega)))
          go_wp2_with fail
          go_ret
          exact ⟨ret_int' HOK.out.symm, hk1.trans hwr⟩
  · have hne : (fb != 0) = true := by simpa using hf0
    have HF := Lib.hid (show er = fb from HER.out.trans ((postsF_board (by rw [← HFB.out]; exact hf0)).trans HFB.out.symm))
    clear hf0
    go_wp2_with fail
    go_ret
    exact ⟨ret_int' HF.out.symm, hk1.trans hw2⟩

end Go.Proofs.YtllkemadaemjeaaGreatDoor

/- Add and PostOf. -/
namespace Go.Proofs.YtllkemadaemjeaaGreatDoor
open Go.RowKit

/-- A post with the number that it gets behind others. -/
def numbered (xs : List Post6) (p : Post6) : Post6 := ⟨(xs.length : Int) + 1, p.tm, p.paper, p.person, p.ans, p.words⟩
noncomputable def postOfE (b : Board4) (xs : List Post6) (p : Post6) : Int := if 2000 ≤ xs.length then 12 else postF b xs (numbered xs p)
noncomputable def addE (b : Board4) (xs : List Post6) (p : Post6) : Int := if postsF b xs ≠ 0 then postsF b xs else postOfE b xs p
/-- What Add leaves. -/
def AddPost (er : Int) (ys : List Post6) (w : World) (e : Ending) (w' : World) : Prop :=
  (er ≠ 0 → e = .returned (.tuple #[.slice none 0 0, .int .i64 er])) ∧ (er = 0 → ∃ q c, e = .returned (.tuple #[.slice q ys.length c, .int .i64 0]) ∧ Acc RPost 6 58 (fun _ => False) w.heap.size w' (.slice q ys.length c) ys) ∧ All w w'

set_option maxRecDepth 100000 in
set_option maxHeartbeats 12800000 in
theorem add_any (a0 : Option Addr) (l0 c0 : Nat) (a1 : Option Addr) (l1 c1 : Nat) (a2 : Option Addr) (l2 c2 : Nat) (a3 : Option Addr) (l3 c3 : Nat) (b : Board4) (a : Option Addr) (len cap : Nat) (xs : List Post6) (no tm : Int) (paper person : ByteArray) (ans : Int) (words : ByteArray) (w : World) (h : BoardIs w a0 l0 a1 l1 a2 l2 a3 l3 b) (hs : Sl RPost 6 (fun _ => True) w a len xs) (hl : len ≤ 1000000) (hcap : len ≤ cap) (hp : PostSmall ⟨no, tm, paper, person, ans, words⟩) (hg : Tabs w) :
    Calls Tryz.prog 25 #[.agg #[.slice a0 l0 c0, .slice a1 l1 c1, .slice a2 l2 c2, .slice a3 l3 c3], .slice a len cap, .agg #[.int .i64 no, .int .i64 tm, .string paper, .string person, .int .i64 ans, .string words]] w (AddPost (addE b xs ⟨no, tm, paper, person, ans, words⟩) (xs ++ [numbered xs ⟨no, tm, paper, person, ans, words⟩]) w) := by
  have hp0 : PostSmall ⟨(len : Int) + 1, tm, paper, person, ans, words⟩ := hp
  have hk1 : All w ((w.alloc (.cells #[.slice a0 l0 c0, .slice a1 l1 c1, .slice a2 l2 c2, .slice a3 l3 c3] 50)).alloc (.cells #[.int .i64 no, .int .i64 tm, .string paper, .string person, .int .i64 ans, .string words] 58)) := (Kept.alloc _ _ _).then_alloc _
  have hB := heap_old (.cells #[.int .i64 no, .int .i64 tm, .string paper, .string person, .int .i64 ans, .string words] 58) (heap_at w (.cells #[.slice a0 l0 c0, .slice a1 l1 c1, .slice a2 l2 c2, .slice a3 l3 c3] 50) _ rfl)
  have hP := heap_at (w.alloc (.cells #[.slice a0 l0 c0, .slice a1 l1 c1, .slice a2 l2 c2, .slice a3 l3 c3] 50)) (.cells #[.int .i64 no, .int .i64 tm, .string paper, .string person, .int .i64 ans, .string words] 58) _ rfl
  have Hlen := Lib.hid hs.len
  have HI := Lib.hid (fun (wx : World) (k : All w wx) => h.keep k)
  have HS := Lib.hid (fun (wx : World) (k : All w wx) => hs.keep RPost.ok k)
  have HG := Lib.hid (fun (wx : World) (k : All w wx) => hg.keep k)
  obtain ⟨bb, hbb⟩ : ∃ k, k = w.heap.size := ⟨_, rfl⟩
  obtain ⟨pb, hpb⟩ : ∃ k, k = (w.alloc (.cells #[.slice a0 l0 c0, .slice a1 l1 c1, .slice a2 l2 c2, .slice a3 l3 c3] 50)).heap.size := ⟨_, rfl⟩
  have hk3 : bb + 1 = pb := by rw [hpb, hbb]; simp
  have HBB := Lib.hid hbb
  have HK3 := Lib.hid hk3
  have hbp : bb ≠ pb := by omega
  have hwp : w.heap.size ≤ pb := by omega
  rw [← hbb] at hB
  rw [← hpb] at hP
  have HC := Lib.hid (fun (F : Nat → Prop) (hF : F bb) (wx : World) (k : Kept F ((w.alloc (.cells #[.slice a0 l0 c0, .slice a1 l1 c1, .slice a2 l2 c2, .slice a3 l3 c3] 50)).alloc (.cells #[.int .i64 no, .int .i64 tm, .string paper, .string person, .int .i64 ans, .string words] 58)) wx) => (⟨k.cell (cell_at (i := 0) hB rfl) hF, k.cell (cell_at (i := 1) hB rfl) hF, k.cell (cell_at (i := 2) hB rfl) hF, k.cell (cell_at (i := 3) hB rfl) hF⟩ : _ ∧ _ ∧ _ ∧ _))
  have HP := Lib.hid (fun (wx : World) (k : All ((w.alloc (.cells #[.slice a0 l0 c0, .slice a1 l1 c1, .slice a2 l2 c2, .slice a3 l3 c3] 50)).alloc (.cells #[.int .i64 no, .int .i64 tm, .string paper, .string person, .int .i64 ans, .string words] 58)) wx) => k.heap hP trivial)
  have HNUM := Lib.hid (show numbered xs ⟨no, tm, paper, person, ans, words⟩ = ⟨(len : Int) + 1, tm, paper, person, ans, words⟩ by unfold numbered; rw [Hlen.out])
  have HPO := Lib.hid (show postOfE b xs ⟨no, tm, paper, person, ans, words⟩ = if 2000 ≤ len then 12 else postF b xs ⟨(len : Int) + 1, tm, paper, person, ans, words⟩ by unfold postOfE; rw [Hlen.out, HNUM.out])
  have HAD := Lib.hid (show addE b xs ⟨no, tm, paper, person, ans, words⟩ = if postsF b xs ≠ 0 then postsF b xs else postOfE b xs ⟨no, tm, paper, person, ans, words⟩ from rfl)
  obtain ⟨er, her⟩ : ∃ e, e = addE b xs ⟨no, tm, paper, person, ans, words⟩ := ⟨_, rfl⟩
  have HER := Lib.hid her
  rw [← her, HNUM.out]
  obtain ⟨f2, hf2⟩ : ∃ e, e = postF b xs ⟨(len : Int) + 1, tm, paper, person, ans, words⟩ := ⟨_, rfl⟩
  have HF2 := Lib.hid hf2
  rw [← hf2] at HPO
  obtain ⟨f1, hf1⟩ : ∃ e, e = postsF b xs := ⟨_, rfl⟩
  have HF1 := Lib.hid hf1
  rw [← hf1] at HAD
  obtain ⟨b0, b1, b2, b3⟩ := HC.out (fun _ => True) trivial _ (Kept.refl _ _)
  have hpc := HP.out _ (Kept.refl _ _)
  clear hB hP h hs hg hbb hpb hk3 her hf2 hf1
  go_enter Tryz.func25, Tryz.ntmps25
  go_wp2_with fail
  simp only [← HBB.out, HK3.out]
  generalize ((w.alloc (.cells #[.slice a0 l0 c0, .slice a1 l1 c1, .slice a2 l2 c2, .slice a3 l3 c3] 50)).alloc (.cells #[.int .i64 no, .int .i64 tm, .string paper, .string person, .int .i64 ans, .string words] 58)) = w1 at *
  refine (checkPosts_any a0 l0 c0 a1 l1 c1 a2 l2 c2 a3 l3 c3 b a len cap xs _ (HI.out _ hk1) (HS.out _ hk1) hl hcap (HG.out _ hk1)).mono ?_
  rintro e w2 ⟨rfl, hw2⟩
  rw [← HF1.out]
  have hk2 := hk1.trans hw2
  clear b0 b1 b2 b3 hpc
  obtain ⟨b0, b1, b2, b3⟩ := HC.out (fun _ => True) trivial _ hw2
  have hpc := HP.out _ hw2
  by_cases h1 : f1 = 0
  · have HRI := Lib.hid (boardF_rises (postsF_zero (HF1.out.symm.trans h1)).1)
    have HADZ := Lib.hid (show er = postOfE b xs ⟨no, tm, paper, person, ans, words⟩ by rw [HER.out, HAD.out, if_neg (by simp [h1])])
    subst h1
    by_cases hbig : 2000 ≤ len
    · have d1 : decide ((2000 : Int) ≤ (len : Int)) = true := by simp; omega
      have HF := Lib.hid (show er = 12 by rw [HADZ.out, HPO.out, if_pos hbig])
      clear hbig hpc
      go_wp2_with fail
      go_ret2
      exact ⟨fun _ => by rw [HF.out]; rfl, fun h => by have := HF.out; omega, hk2⟩
    · have d1 : decide ((2000 : Int) ≤ (len : Int)) = false := by simp; omega
      have HADF := Lib.hid (show er = f2 by rw [HADZ.out, HPO.out, if_neg hbig])
      have hlen2 : len < 2000 := by omega
      clear hbig
      have z0 := frozen_at (i := 0) hpc
      have y0 := cell_at (i := 0) hpc rfl
      have hpc3 := heap_setCell_at _ pb 0 (.int .i64 ((len : Int) + 1)) _ _ _ hpc
      simp only [List.setIfInBounds_toArray, List.set_cons_zero] at hpc3
      have hk3 : All w (w2.setCell ⟨pb, 0, none⟩ (.int .i64 ((len : Int) + 1))) := hk2.then_setNew _ _ hwp
      have hkb : Kept (fun k => k ≠ pb) w1 (w2.setCell ⟨pb, 0, none⟩ (.int .i64 ((len : Int) + 1))) := (Kept.all hw2).then_setCell _ _ (by simp)
      obtain ⟨w3, hw3⟩ : ∃ y, y = (w2.setCell ⟨pb, 0, none⟩ (.int .i64 ((len : Int) + 1))) := ⟨_, rfl⟩
      have HW3 := Lib.hid hw3
      rw [← hw3] at hpc3 hk3 hkb
      obtain ⟨b0', b1', b2', b3'⟩ := HC.out (fun k => k ≠ pb) hbp _ hkb
      have HC3 := Lib.hid (fun (wx : World) (k : All w3 wx) => HC.out (fun k => k ≠ pb) hbp wx (hkb.trans (Kept.all k)))
      have HP3 := Lib.hid (fun (wx : World) (k : All w3 wx) => k.heap hpc3 trivial)
      have g0 := cell_at (i := 0) hpc3 rfl
      have g1 := cell_at (i := 1) hpc3 rfl
      have g2 := cell_at (i := 2) hpc3 rfl
      have g3 := cell_at (i := 3) hpc3 rfl
      have g4 := cell_at (i := 4) hpc3 rfl
      have g5 := cell_at (i := 5) hpc3 rfl
      clear hw3 hpc hpc3 hw2
      go_upto_region 7 with fail
      rw [← HW3.out]
      clear b0 b1 b2 b3 z0 y0 HW3
      go_wp2_with fail
      refine (postFault_any a0 l0 c0 a1 l1 c1 a2 l2 c2 a3 l3 c3 b a len cap xs ((len : Int) + 1) tm paper person ans words _ (HI.out _ hk3) HRI.out.1 HRI.out.2 (HS.out _ hk3) hl hp0 (HG.out _ hk3)).mono ?_
      rintro e w4 ⟨rfl, hw4⟩
      rw [← HF2.out]
      have hk4 := hk3.trans hw4
      clear b0' b1' b2' b3' g0 g1 g2 g3 g4 g5
      by_cases h2 : f2 = 0
      · subst h2
        have HCL := Lib.hid (fun (wx : World) (k : All w4 wx) => clonePost_any a len cap xs wx (HS.out _ (hk4.trans k)) hl)
        have HP4 := Lib.hid (fun (wx : World) (k : All w4 wx) => HP3.out wx (hw4.trans k))
        go_upto_region 10 with fail
        refine wp_region_inv 4 (by kernel_rfl) (by kernel_rfl) (by kernel_rfl) (fun _ wx => All w4 wx)
          (DL [QIs (.slice a len cap), QAcc RPost 6 58 w4.heap.size xs, QIs (.agg #[.int .i64 ((len : Int) + 1), .int .i64 tm, .string paper, .string person, .int .i64 ans, .string words]), QRow #[.int .i64 ((len : Int) + 1), .int .i64 tm, .string paper, .string person, .int .i64 ans, .string words] 58]) All
          (DL.keep (by simp only [List.forall_mem_cons, List.not_mem_nil, false_implies, implies_true, and_true]; exact ⟨QIs.stays _, QAcc.stays RPost.ok _ _ _ _, QIs.stays _, QRow.stays _ _⟩)) ?_ ?_ ?_
        · exact Kept.drew _ _
        · intro i o t ho hd hi k' a' wx hk' hg hdf hts hoth hdeps
          have hszx := hg.size
          have hz : i = 0 ∨ i = 1 ∨ i = 2 ∨ i = 3 := by omega
          rcases hz with rfl | rfl | rfl | rfl
          · obtain rfl := Option.some.inj ho
            obtain rfl := Option.some.inj hd
            have e0 : a'.tmps.getD 1 undef = .slice a len cap := tmp_of ((hoth 1 (by decide)).trans rfl)
            clear hoth hdeps hdf hts ho
            refine wp_via (fun K' hK => ?_)
            have HK := Lib.hid hK
            clear hK
            go_simp
            exact HK.out _ _ ⟨_, rfl, hg, Kept.refl _ _, rfl⟩
          · obtain rfl := Option.some.inj ho
            obtain rfl := Option.some.inj hd
            have e0 : a'.tmps.getD 30 undef = .slice a len cap := hdeps 0 (by decide) 30 rfl
            clear hoth hdeps hdf hts ho
            refine wp_via (fun K' hK => ?_)
            have HK := Lib.hid hK
            clear hK
            go_simp
            refine (HCL.out wx hg).mono ?_
            rintro e w4 ⟨p, c, rfl, hac, hw4⟩
            exact HK.out _ _ ⟨_, rfl, hg.trans hw4, hw4, ⟨p, c, rfl, hac.base0 hszx⟩⟩
          · obtain rfl := Option.some.inj ho
            obtain rfl := Option.some.inj hd
            have hpx := HP4.out wx hg
            have g0 := cell_at (i := 0) hpx rfl
            have g1 := cell_at (i := 1) hpx rfl
            have g2 := cell_at (i := 2) hpx rfl
            have g3 := cell_at (i := 3) hpx rfl
            have g4 := cell_at (i := 4) hpx rfl
            have g5 := cell_at (i := 5) hpx rfl
            have e0 : a'.tmps.getD 5 undef = .pointer (some ⟨pb, 0, none⟩) := tmp_of ((hoth 5 (by decide)).trans rfl)
            clear hpx
            clear hoth hdeps hdf hts ho
            refine wp_via (fun K' hK => ?_)
            have HK := Lib.hid hK
            clear hK
            go_simp
            exact HK.out _ _ ⟨_, rfl, hg, Kept.refl _ _, rfl⟩
          · obtain rfl := Option.some.inj ho
            obtain rfl := Option.some.inj hd
            have e0 : a'.tmps.getD 32 undef = .agg #[.int .i64 ((len : Int) + 1), .int .i64 tm, .string paper, .string person, .int .i64 ans, .string words] := hdeps 2 (by decide) 32 rfl
            have e0' : a'.tmps[32]?.getD undef = .agg #[.int .i64 ((len : Int) + 1), .int .i64 tm, .string paper, .string person, .int .i64 ans, .string words] := by rw [← Array.getD_eq_getD_getElem?]; exact e0
            clear hoth hdeps hdf hts ho
            refine wp_via (fun K' hK => ?_)
            have HK := Lib.hid hK
            clear hK
            go_simp
            exact HK.out _ _ ⟨_, rfl, hg.then_alloc _, Kept.alloc _ _ _, ⟨wx.heap.size, rfl, heap_at _ _ _ rfl⟩⟩
        · intro wx f hg hd
          obtain ⟨p1, q1, e1, hac⟩ : QAcc RPost 6 58 w4.heap.size xs (f 31) wx := hd 1 31 (by decide) rfl
          obtain ⟨b9, e3, hb9⟩ : QRow #[.int .i64 ((len : Int) + 1), .int .i64 tm, .string paper, .string person, .int .i64 ans, .string words] 58 (f 33) wx := hd 3 33 (by decide) rfl
          rw [show dsts _ 4 = [30, 31, 32, 33] from by kernel_rfl]
          simp only [List.map_cons, List.map_nil, puts, Act.put, e1, e3, List.drop_succ_cons, List.drop_zero]
          generalize f 30 = f0
          generalize f 32 = f2
          have H9 := Lib.hid hb9
          have hall := hk4.trans hg
          have hsz4 := hk4.size
          have hszx := hg.size
          have HLL := Lib.hid (show (xs ++ [(⟨(len : Int) + 1, tm, paper, person, ans, words⟩ : Post6)]).length = len + 1 by simp [Hlen.out])
          rw [Hlen.out] at hac
          have hlx := Hlen.out
          clear hd e1 e3 hb9
          rw [Hlen.out]
          go_simp
          go_wp2_with (at_builtin; refine wp_append1 RPost.ok _ rfl _ _ 52 rfl w.heap.size 58 (.agg #[.int .i64 0, .int .i64 0, .string ⟨#[]⟩, .string ⟨#[]⟩, .int .i64 0, .string ⟨#[]⟩]) 6 72 Tryz.underlying52 (by kernel_rfl) rfl (by decide) (fun _ => False) _ xs rfl (hac.base0 (by omega)) ⟨b9, 0, none⟩ 1 [.int .i64 ((len : Int) + 1), .int .i64 tm, .string paper, .string person, .int .i64 ans, .string words] rfl rfl (World.news_of_block H9.out) (by simp [Value.oneCell']) ⟨(len : Int) + 1, tm, paper, person, ans, words⟩ ⟨rfl, hp0⟩ (by omega) (by decide) (by omega) ?_)
          intro p8 c8 w9 hac9 hg9 _
          have hk9 : All w w9 := hall.grown hg9 (fun k hk => Or.inl (by have := (hac.lt k hk).1; omega))
          have HA9 := Lib.hid hac9
          clear hg9 hac hac9
          go_wp2_with fail
          go_ret2
          exact ⟨fun h => absurd HADF.out h, fun _ => ⟨p8, c8, by rw [HLL.out]; rfl, by rw [HLL.out]; exact HA9.out⟩, hk9⟩
      · have hne : (f2 != 0) = true := by simpa using h2
        have H2 := Lib.hid h2
        clear h2
        go_wp2_with fail
        go_ret2
        exact ⟨fun _ => by rw [HADF.out]; rfl, fun h => absurd (HADF.out.symm.trans h) H2.out, hk4⟩
  · have hne : (f1 != 0) = true := by simpa using h1
    have HF := Lib.hid (show er = f1 by rw [HER.out, HAD.out, if_pos h1])
    have H1 := Lib.hid h1
    clear h1 hpc
    go_wp2_with fail
    go_ret2
    exact ⟨fun _ => by rw [HF.out]; rfl, fun h => absurd (HF.out.symm.trans h) H1.out, hk2⟩

set_option maxRecDepth 100000 in
set_option maxHeartbeats 12800000 in
theorem postOf_any (a0 : Option Addr) (l0 c0 : Nat) (a1 : Option Addr) (l1 c1 : Nat) (a2 : Option Addr) (l2 c2 : Nat) (a3 : Option Addr) (l3 c3 : Nat) (b : Board4) (a : Option Addr) (len cap : Nat) (xs : List Post6) (no tm : Int) (paper person : ByteArray) (ans : Int) (words : ByteArray) (w : World) (h : BoardIs w a0 l0 a1 l1 a2 l2 a3 l3 b) (hs : Sl RPost 6 (fun _ => True) w a len xs) (hl : len ≤ 1000000) (hp : PostSmall ⟨no, tm, paper, person, ans, words⟩) (hg : Tabs w) :
    Calls Tryz.prog 28 #[.agg #[.slice a0 l0 c0, .slice a1 l1 c1, .slice a2 l2 c2, .slice a3 l3 c3], .slice a len cap, .agg #[.int .i64 no, .int .i64 tm, .string paper, .string person, .int .i64 ans, .string words]] w (AddPost (postOfE b xs ⟨no, tm, paper, person, ans, words⟩) (xs ++ [numbered xs ⟨no, tm, paper, person, ans, words⟩]) w) := by
  have hp0 : PostSmall ⟨(len : Int) + 1, tm, paper, person, ans, words⟩ := hp
  have hk1 : All w ((w.alloc (.cells #[.slice a0 l0 c0, .slice a1 l1 c1, .slice a2 l2 c2, .slice a3 l3 c3] 50)).alloc (.cells #[.int .i64 no, .int .i64 tm, .string paper, .string person, .int .i64 ans, .string words] 58)) := (Kept.alloc _ _ _).then_alloc _
  have hB := heap_old (.cells #[.int .i64 no, .int .i64 tm, .string paper, .string person, .int .i64 ans, .string words] 58) (heap_at w (.cells #[.slice a0 l0 c0, .slice a1 l1 c1, .slice a2 l2 c2, .slice a3 l3 c3] 50) _ rfl)
  have hP := heap_at (w.alloc (.cells #[.slice a0 l0 c0, .slice a1 l1 c1, .slice a2 l2 c2, .slice a3 l3 c3] 50)) (.cells #[.int .i64 no, .int .i64 tm, .string paper, .string person, .int .i64 ans, .string words] 58) _ rfl
  have Hlen := Lib.hid hs.len
  have HI := Lib.hid (fun (wx : World) (k : All w wx) => h.keep k)
  have HS := Lib.hid (fun (wx : World) (k : All w wx) => hs.keep RPost.ok k)
  have HG := Lib.hid (fun (wx : World) (k : All w wx) => hg.keep k)
  obtain ⟨bb, hbb⟩ : ∃ k, k = w.heap.size := ⟨_, rfl⟩
  obtain ⟨pb, hpb⟩ : ∃ k, k = (w.alloc (.cells #[.slice a0 l0 c0, .slice a1 l1 c1, .slice a2 l2 c2, .slice a3 l3 c3] 50)).heap.size := ⟨_, rfl⟩
  have hk3 : bb + 1 = pb := by rw [hpb, hbb]; simp
  have HBB := Lib.hid hbb
  have HK3 := Lib.hid hk3
  have hbp : bb ≠ pb := by omega
  have hwp : w.heap.size ≤ pb := by omega
  rw [← hbb] at hB
  rw [← hpb] at hP
  have HC := Lib.hid (fun (F : Nat → Prop) (hF : F bb) (wx : World) (k : Kept F ((w.alloc (.cells #[.slice a0 l0 c0, .slice a1 l1 c1, .slice a2 l2 c2, .slice a3 l3 c3] 50)).alloc (.cells #[.int .i64 no, .int .i64 tm, .string paper, .string person, .int .i64 ans, .string words] 58)) wx) => (⟨k.cell (cell_at (i := 0) hB rfl) hF, k.cell (cell_at (i := 1) hB rfl) hF, k.cell (cell_at (i := 2) hB rfl) hF, k.cell (cell_at (i := 3) hB rfl) hF⟩ : _ ∧ _ ∧ _ ∧ _))
  have HP := Lib.hid (fun (wx : World) (k : All ((w.alloc (.cells #[.slice a0 l0 c0, .slice a1 l1 c1, .slice a2 l2 c2, .slice a3 l3 c3] 50)).alloc (.cells #[.int .i64 no, .int .i64 tm, .string paper, .string person, .int .i64 ans, .string words] 58)) wx) => k.heap hP trivial)
  have HNUM := Lib.hid (show numbered xs ⟨no, tm, paper, person, ans, words⟩ = ⟨(len : Int) + 1, tm, paper, person, ans, words⟩ by unfold numbered; rw [Hlen.out])
  have HPO := Lib.hid (show postOfE b xs ⟨no, tm, paper, person, ans, words⟩ = if 2000 ≤ len then 12 else postF b xs ⟨(len : Int) + 1, tm, paper, person, ans, words⟩ by unfold postOfE; rw [Hlen.out, HNUM.out])

  obtain ⟨er, her⟩ : ∃ e, e = postOfE b xs ⟨no, tm, paper, person, ans, words⟩ := ⟨_, rfl⟩
  have HER := Lib.hid her
  rw [← her, HNUM.out]
  obtain ⟨f2, hf2⟩ : ∃ e, e = postF b xs ⟨(len : Int) + 1, tm, paper, person, ans, words⟩ := ⟨_, rfl⟩
  have HF2 := Lib.hid hf2
  rw [← hf2] at HPO



  obtain ⟨b0, b1, b2, b3⟩ := HC.out (fun _ => True) trivial _ (Kept.refl _ _)
  have hpc := HP.out _ (Kept.refl _ _)
  clear hB hP h hs hg hbb hpb hk3 her hf2
  have HADZ := Lib.hid HER.out
  by_cases hbig : 2000 ≤ len
  · have d1 : decide ((2000 : Int) ≤ (len : Int)) = true := by simp; omega
    have HF := Lib.hid (show er = 12 by rw [HADZ.out, HPO.out, if_pos hbig])
    clear hbig hpc
    go_enter Tryz.func28, Tryz.ntmps28
    go_wp2_with fail
    go_ret2
    exact ⟨fun _ => by rw [HF.out]; rfl, fun h => by have := HF.out; omega, hk1⟩
  · have d1 : decide ((2000 : Int) ≤ (len : Int)) = false := by simp; omega
    have HADF := Lib.hid (show er = f2 by rw [HADZ.out, HPO.out, if_neg hbig])
    have hlen2 : len < 2000 := by omega
    clear hbig
    go_enter Tryz.func28, Tryz.ntmps28
    go_upto_region 3 with fail
    simp only [← HBB.out, HK3.out]
    generalize ((w.alloc (.cells #[.slice a0 l0 c0, .slice a1 l1 c1, .slice a2 l2 c2, .slice a3 l3 c3] 50)).alloc (.cells #[.int .i64 no, .int .i64 tm, .string paper, .string person, .int .i64 ans, .string words] 58)) = w1 at *
    obtain ⟨w2, hw2e⟩ : ∃ y, y = w1 := ⟨_, rfl⟩
    have hw2 : All w1 w2 := by rw [hw2e]; exact Kept.refl _ _
    have hk2 := hk1.trans hw2
    rw [← hw2e]
    clear b0 b1 b2 b3 hpc
    obtain ⟨b0, b1, b2, b3⟩ := HC.out (fun _ => True) trivial _ hw2
    have hpc := HP.out _ hw2
    clear hw2e
    have z0 := frozen_at (i := 0) hpc
    have y0 := cell_at (i := 0) hpc rfl
    have hpc3 := heap_setCell_at _ pb 0 (.int .i64 ((len : Int) + 1)) _ _ _ hpc
    simp only [List.setIfInBounds_toArray, List.set_cons_zero] at hpc3
    have hk3 : All w (w2.setCell ⟨pb, 0, none⟩ (.int .i64 ((len : Int) + 1))) := hk2.then_setNew _ _ hwp
    have hkb : Kept (fun k => k ≠ pb) w1 (w2.setCell ⟨pb, 0, none⟩ (.int .i64 ((len : Int) + 1))) := (Kept.all hw2).then_setCell _ _ (by simp)
    obtain ⟨w3, hw3⟩ : ∃ y, y = (w2.setCell ⟨pb, 0, none⟩ (.int .i64 ((len : Int) + 1))) := ⟨_, rfl⟩
    have HW3 := Lib.hid hw3
    rw [← hw3] at hpc3 hk3 hkb
    obtain ⟨b0', b1', b2', b3'⟩ := HC.out (fun k => k ≠ pb) hbp _ hkb
    have HC3 := Lib.hid (fun (wx : World) (k : All w3 wx) => HC.out (fun k => k ≠ pb) hbp wx (hkb.trans (Kept.all k)))
    have HP3 := Lib.hid (fun (wx : World) (k : All w3 wx) => k.heap hpc3 trivial)
    have g0 := cell_at (i := 0) hpc3 rfl
    have g1 := cell_at (i := 1) hpc3 rfl
    have g2 := cell_at (i := 2) hpc3 rfl
    have g3 := cell_at (i := 3) hpc3 rfl
    have g4 := cell_at (i := 4) hpc3 rfl
    have g5 := cell_at (i := 5) hpc3 rfl
    clear hw3 hpc hpc3 hw2
    go_upto_region 4 with fail
    rw [← HW3.out]
    clear b0 b1 b2 b3 z0 y0 HW3
    go_wp2_with fail
    refine (postFaultR_any a0 l0 c0 a1 l1 c1 a2 l2 c2 a3 l3 c3 b a len cap xs ((len : Int) + 1) tm paper person ans words _ (HI.out _ hk3) (HS.out _ hk3) hl hp0 (HG.out _ hk3)).mono ?_
    rintro e w4 ⟨rfl, hw4⟩
    rw [← HF2.out]
    have hk4 := hk3.trans hw4
    clear b0' b1' b2' b3' g0 g1 g2 g3 g4 g5
    by_cases h2 : f2 = 0
    · subst h2
      have HCL := Lib.hid (fun (wx : World) (k : All w4 wx) => clonePost_any a len cap xs wx (HS.out _ (hk4.trans k)) hl)
      have HP4 := Lib.hid (fun (wx : World) (k : All w4 wx) => HP3.out wx (hw4.trans k))
      go_upto_region 7 with fail
      refine wp_region_inv 4 (by kernel_rfl) (by kernel_rfl) (by kernel_rfl) (fun _ wx => All w4 wx)
        (DL [QIs (.slice a len cap), QAcc RPost 6 58 w4.heap.size xs, QIs (.agg #[.int .i64 ((len : Int) + 1), .int .i64 tm, .string paper, .string person, .int .i64 ans, .string words]), QRow #[.int .i64 ((len : Int) + 1), .int .i64 tm, .string paper, .string person, .int .i64 ans, .string words] 58]) All
        (DL.keep (by simp only [List.forall_mem_cons, List.not_mem_nil, false_implies, implies_true, and_true]; exact ⟨QIs.stays _, QAcc.stays RPost.ok _ _ _ _, QIs.stays _, QRow.stays _ _⟩)) ?_ ?_ ?_
      · exact Kept.drew _ _
      · intro i o t ho hd hi k' a' wx hk' hg hdf hts hoth hdeps
        have hszx := hg.size
        have hz : i = 0 ∨ i = 1 ∨ i = 2 ∨ i = 3 := by omega
        rcases hz with rfl | rfl | rfl | rfl
        · obtain rfl := Option.some.inj ho
          obtain rfl := Option.some.inj hd
          have e0 : a'.tmps.getD 1 undef = .slice a len cap := tmp_of ((hoth 1 (by decide)).trans rfl)
          clear hoth hdeps hdf hts ho
          refine wp_via (fun K' hK => ?_)
          have HK := Lib.hid hK
          clear hK
          go_simp
          exact HK.out _ _ ⟨_, rfl, hg, Kept.refl _ _, rfl⟩
        · obtain rfl := Option.some.inj ho
          obtain rfl := Option.some.inj hd
          have e0 : a'.tmps.getD 23 undef = .slice a len cap := hdeps 0 (by decide) 23 rfl
          clear hoth hdeps hdf hts ho
          refine wp_via (fun K' hK => ?_)
          have HK := Lib.hid hK
          clear hK
          go_simp
          refine (HCL.out wx hg).mono ?_
          rintro e w4 ⟨p, c, rfl, hac, hw4⟩
          exact HK.out _ _ ⟨_, rfl, hg.trans hw4, hw4, ⟨p, c, rfl, hac.base0 hszx⟩⟩
        · obtain rfl := Option.some.inj ho
          obtain rfl := Option.some.inj hd
          have hpx := HP4.out wx hg
          have g0 := cell_at (i := 0) hpx rfl
          have g1 := cell_at (i := 1) hpx rfl
          have g2 := cell_at (i := 2) hpx rfl
          have g3 := cell_at (i := 3) hpx rfl
          have g4 := cell_at (i := 4) hpx rfl
          have g5 := cell_at (i := 5) hpx rfl
          have e0 : a'.tmps.getD 5 undef = .pointer (some ⟨pb, 0, none⟩) := tmp_of ((hoth 5 (by decide)).trans rfl)
          clear hpx
          clear hoth hdeps hdf hts ho
          refine wp_via (fun K' hK => ?_)
          have HK := Lib.hid hK
          clear hK
          go_simp
          exact HK.out _ _ ⟨_, rfl, hg, Kept.refl _ _, rfl⟩
        · obtain rfl := Option.some.inj ho
          obtain rfl := Option.some.inj hd
          have e0 : a'.tmps.getD 25 undef = .agg #[.int .i64 ((len : Int) + 1), .int .i64 tm, .string paper, .string person, .int .i64 ans, .string words] := hdeps 2 (by decide) 25 rfl
          have e0' : a'.tmps[25]?.getD undef = .agg #[.int .i64 ((len : Int) + 1), .int .i64 tm, .string paper, .string person, .int .i64 ans, .string words] := by rw [← Array.getD_eq_getD_getElem?]; exact e0
          clear hoth hdeps hdf hts ho
          refine wp_via (fun K' hK => ?_)
          have HK := Lib.hid hK
          clear hK
          go_simp
          exact HK.out _ _ ⟨_, rfl, hg.then_alloc _, Kept.alloc _ _ _, ⟨wx.heap.size, rfl, heap_at _ _ _ rfl⟩⟩
      · intro wx f hg hd
        obtain ⟨p1, q1, e1, hac⟩ : QAcc RPost 6 58 w4.heap.size xs (f 24) wx := hd 1 24 (by decide) rfl
        obtain ⟨b9, e3, hb9⟩ : QRow #[.int .i64 ((len : Int) + 1), .int .i64 tm, .string paper, .string person, .int .i64 ans, .string words] 58 (f 26) wx := hd 3 26 (by decide) rfl
        rw [show dsts _ 4 = [23, 24, 25, 26] from by kernel_rfl]
        simp only [List.map_cons, List.map_nil, puts, Act.put, e1, e3, List.drop_succ_cons, List.drop_zero]
        generalize f 23 = f0
        generalize f 25 = f2
        have H9 := Lib.hid hb9
        have hall := hk4.trans hg
        have hsz4 := hk4.size
        have hszx := hg.size
        have HLL := Lib.hid (show (xs ++ [(⟨(len : Int) + 1, tm, paper, person, ans, words⟩ : Post6)]).length = len + 1 by simp [Hlen.out])
        rw [Hlen.out] at hac
        have hlx := Hlen.out
        clear hd e1 e3 hb9
        rw [Hlen.out]
        go_simp
        go_wp2_with (at_builtin; refine wp_append1 RPost.ok _ rfl _ _ 52 rfl w.heap.size 58 (.agg #[.int .i64 0, .int .i64 0, .string ⟨#[]⟩, .string ⟨#[]⟩, .int .i64 0, .string ⟨#[]⟩]) 6 72 Tryz.underlying52 (by kernel_rfl) rfl (by decide) (fun _ => False) _ xs rfl (hac.base0 (by omega)) ⟨b9, 0, none⟩ 1 [.int .i64 ((len : Int) + 1), .int .i64 tm, .string paper, .string person, .int .i64 ans, .string words] rfl rfl (World.news_of_block H9.out) (by simp [Value.oneCell']) ⟨(len : Int) + 1, tm, paper, person, ans, words⟩ ⟨rfl, hp0⟩ (by omega) (by decide) (by omega) ?_)
        intro p8 c8 w9 hac9 hg9 _
        have hk9 : All w w9 := hall.grown hg9 (fun k hk => Or.inl (by have := (hac.lt k hk).1; omega))
        have HA9 := Lib.hid hac9
        clear hg9 hac hac9
        go_wp2_with fail
        go_ret2
        exact ⟨fun h => absurd HADF.out h, fun _ => ⟨p8, c8, by rw [HLL.out]; rfl, by rw [HLL.out]; exact HA9.out⟩, hk9⟩
    · have hne : (f2 != 0) = true := by simpa using h2
      have H2 := Lib.hid h2
      clear h2
      go_wp2_with fail
      go_ret2
      exact ⟨fun _ => by rw [HADF.out]; rfl, fun h => absurd (HADF.out.symm.trans h) H2.out, hk4⟩

end Go.Proofs.YtllkemadaemjeaaGreatDoor
