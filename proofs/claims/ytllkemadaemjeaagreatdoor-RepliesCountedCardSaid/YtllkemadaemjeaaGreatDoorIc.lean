/- CheckReplies and RepliesFault answer repsF. -/
import Derived.Test.YtllkemadaemjeaaGreatDoorDk
import Derived.Test.YtllkemadaemjeaaGreatDoorDh
import Derived.Test.YtllkemadaemjeaaGreatDoorBe
import Derived.Test.YtllkemadaemjeaaGreatDoorKb
namespace Go.Proofs.YtllkemadaemjeaaGreatDoor
open Go.RowKit

set_option maxRecDepth 100000 in
set_option maxHeartbeats 6400000 in
theorem checkReplies_any (a : Option Addr) (len cap : Nat) (xs : List Rep3) (w : World) (hs : Sl RReply 3 (fun _ => True) w a len xs) (hl : len ≤ 1000000) (hg : Tabs w) :
    Calls Tryz.prog 34 #[.slice a len cap] w fun e w' => e = .returned (.int .i64 (repsF xs)) ∧ All w w' := by
  have Hlen := Lib.hid hs.len
  obtain ⟨er, her⟩ : ∃ e, e = repsF xs := ⟨_, rfl⟩
  have HER := Lib.hid her
  rw [← her]
  clear her
  by_cases hbig : 2000 < len
  · have hd : decide ((2000 : Int) < (len : Int)) = true := by simp; omega
    have HF := Lib.hid (show er = 2 from HER.out.trans (repsF_large (by have := Hlen.out; omega)))
    go_enter Tryz.func34, Tryz.ntmps34
    go_wp2_with fail
    go_ret
    exact ⟨ret_int' HF.out.symm, Kept.refl _ _⟩
  · have hd : decide ((2000 : Int) < (len : Int)) = false := by simp; omega
    have HSO := Lib.hid (show er = repsG xs from HER.out.trans (repsF_some (by have := Hlen.out; omega)))
    have HS := Lib.hid (fun (wx : World) (k : All w wx) => hs.keep RReply.ok k)
    have HG := Lib.hid (fun (wx : World) (k : All w wx) => hg.keep k)
    clear hs hg
    go_enter Tryz.func34, Tryz.ntmps34
    go_wp2_with fail
    go_loopw [10] (fun i wr => ∃ k : Nat, k ≤ len ∧ i = .int .i64 k ∧ RepsAt xs k ∧ All w wr) (fun i _ => len - (intOf i).toNat)
    case atStart => exact ⟨0, Nat.zero_le _, rfl, RepsAt.zero _, Kept.refl _ _⟩
    case round =>
      obtain ⟨k, hk, rfl, hat, hwr⟩ := hrel
      obtain ⟨wo, rfl⟩ : ∃ wo : World, wo = wr := ⟨_, rfl⟩
      have HA := Lib.hid hat
      clear hat
      by_cases hlt : k < len
      · obtain ⟨bq, oq, x, haq, -, q0, q1, q2, ⟨hz1, hz2⟩, hx, -, -⟩ := (HS.out _ hwr).atReply hlt
        subst haq
        have HX := Lib.hid hx
        have hblk := heap_at wo (.cells #[.string x.paper, .int .i64 x.tm, .string x.words] 79) _ rfl
        have hwa : All w (wo.alloc (.cells #[.string x.paper, .int .i64 x.tm, .string x.words] 79)) := hwr.then_alloc _
        have HC := Lib.hid (fun (wx : World) (k' : All (wo.alloc (.cells #[.string x.paper, .int .i64 x.tm, .string x.words] 79)) wx) => (⟨k'.cell (cell_at (i := 0) hblk rfl) trivial, k'.cell (cell_at (i := 1) hblk rfl) trivial, k'.cell (cell_at (i := 2) hblk rfl) trivial⟩ : _ ∧ _ ∧ _))
        obtain ⟨xb, hxb⟩ : ∃ k, k = wo.heap.size := ⟨_, rfl⟩
        have HXB := Lib.hid hxb
        rw [← hxb] at HC
        obtain ⟨p0, p1, p2⟩ := HC.out _ (Kept.refl _ _)
        clear hx hblk hxb
        cases hk1 : isKeyB x.paper with
        | false =>
          go_wp2_with fail
          simp only [← HXB.out]
          generalize wo.alloc (.cells #[.string x.paper, .int .i64 x.tm, .string x.words] 79) = wa at *
          clear q0 q1 q2
          refine (isKey_any x.paper _ (by omega)).mono ?_
          rintro e w2 ⟨rfl, hh⟩
          subst hh
          rw [hk1]
          have hx : All wa wa := Kept.refl _ _
          have HF := Lib.hid (show er = _ from HSO.out.trans (HA.out.bad HX.out (repF_name hk1) (by decide)))
          go_wp2_with fail
          go_ret
          exact ⟨ret_int' HF.out.symm, hwa.trans hx⟩
        | true =>
          go_wp2_with fail
          simp only [← HXB.out]
          generalize wo.alloc (.cells #[.string x.paper, .int .i64 x.tm, .string x.words] 79) = wa at *
          clear q0 q1 q2
          refine (isKey_any x.paper _ (by omega)).mono ?_
          rintro e w2 ⟨rfl, hh⟩
          subst hh
          rw [hk1]
          have hx : All wa wa := Kept.refl _ _
          have HK := Lib.hid hk1
          clear hk1
          by_cases htm : x.tm < 0 ∨ 5761440 ≤ x.tm
          · have HT := Lib.hid htm
            go_wp2_with fail
            refine (isMoment_any _ _).mono ?_
            rintro e w3 ⟨rfl, hh⟩
            subst hh
            rw [show decide (0 ≤ x.tm ∧ x.tm < 5761440) = false from by simp; omega]
            clear htm
            have HF := Lib.hid (show er = _ from HSO.out.trans (HA.out.bad HX.out (repF_arg HK.out HT.out) (by decide)))
            go_wp2_with fail
            go_ret
            exact ⟨ret_int' HF.out.symm, hwa.trans hx⟩
          · have HT := Lib.hid htm
            go_wp2_with fail
            refine (isMoment_any _ _).mono ?_
            rintro e w3 ⟨rfl, hh⟩
            subst hh
            rw [show decide (0 ≤ x.tm ∧ x.tm < 5761440) = true from by simp; omega]
            clear htm
            by_cases hw0 : x.words.size = 0
            · have he : x.words.toList = [] := toList_nil hw0
              have H0 := Lib.hid hw0
              clear hw0
              have HF := Lib.hid (show er = _ from HSO.out.trans (HA.out.bad HX.out (repF_none HK.out HT.out H0.out) (by decide)))
              go_wp2_with fail
              go_ret
              exact ⟨ret_int' HF.out.symm, hwa.trans hx⟩
            · have he : x.words.toList ≠ [] := toList_ne hw0
              have hde : x.words.toList.isEmpty = false := by simpa using he
              have H0 := Lib.hid hw0
              clear hw0
              go_wp2_with fail
              refine (isText_any x.words _ hz2 (HG.out _ (hwa.trans hx))).mono ?_
              rintro e w4 ⟨rfl, hw4⟩
              replace hx := hx.trans hw4
              clear p0 p1 p2
              obtain ⟨p0, p1, p2⟩ := HC.out _ hx
              cases htx : isTextB x.words with
              | false =>
                have HTX := Lib.hid htx
                have HF := Lib.hid (show er = _ from HSO.out.trans (HA.out.bad HX.out (repF_form HK.out HT.out H0.out HTX.out) (by decide)))
                go_wp2_with fail
                go_ret
                exact ⟨ret_int' HF.out.symm, hwa.trans hx⟩
              | true =>
                have HTX := Lib.hid htx
                clear htx
                by_cases hbg : 6000 < x.words.size
                · have dbig : decide ((6000 : Int) < (x.words.size : Int)) = true := by simp; omega
                  have HB := Lib.hid hbg
                  clear hbg
                  have HF := Lib.hid (show er = _ from HSO.out.trans (HA.out.bad HX.out (repF_large HK.out HT.out H0.out HTX.out HB.out) (by decide)))
                  go_wp2_with fail
                  go_ret
                  exact ⟨ret_int' HF.out.symm, hwa.trans hx⟩
                · have dbig : decide ((6000 : Int) < (x.words.size : Int)) = false := by simp; omega
                  have HNX := Lib.hid (HA.out.next HX.out (repF_ok HK.out HT.out H0.out HTX.out hbg))
                  clear hbg
                  go_wp2_with fail
                  go_roundw
                  case rel => exact ⟨k + 1, by omega, by go_num, HNX.out, hwa.trans hx⟩
                  case measure => simp [intOf]; omega
      · have hdk : decide ((k : Int) < (len : Int)) = false := by simp; omega
        have HOK := Lib.hid (show er = 0 from HSO.out.trans (HA.out.ok (by have := Hlen.out; omega)))
        go_wp2_with fail
        go_ret
        exact ⟨ret_int' HOK.out.symm, hwr⟩
      
set_option maxRecDepth 100000 in
set_option maxHeartbeats 6400000 in
theorem repliesFault_any (a : Option Addr) (len cap : Nat) (xs : List Rep3) (w : World) (hs : Sl RReply 3 (fun _ => True) w a len xs) (hl : len ≤ 1000000) (hg : Tabs w) :
    Calls Tryz.prog 35 #[.slice a len cap] w fun e w' => e = .returned (.int .i64 (repsF xs)) ∧ All w w' := by
  have Hlen := Lib.hid hs.len
  obtain ⟨er, her⟩ : ∃ e, e = repsF xs := ⟨_, rfl⟩
  have HER := Lib.hid her
  rw [← her]
  clear her
  by_cases hbig : 2000 < len
  · have hd : decide ((2000 : Int) < (len : Int)) = true := by simp; omega
    have HF := Lib.hid (show er = 2 from HER.out.trans (repsF_large (by have := Hlen.out; omega)))
    go_enter Tryz.func35, Tryz.ntmps35
    go_wp2_with fail
    go_ret
    exact ⟨ret_int' HF.out.symm, Kept.refl _ _⟩
  · have hd : decide ((2000 : Int) < (len : Int)) = false := by simp; omega
    have HSO := Lib.hid (show er = repsG xs from HER.out.trans (repsF_some (by have := Hlen.out; omega)))
    have HS := Lib.hid (fun (wx : World) (k : All w wx) => hs.keep RReply.ok k)
    have HG := Lib.hid (fun (wx : World) (k : All w wx) => hg.keep k)
    clear hs hg
    go_enter Tryz.func35, Tryz.ntmps35
    go_wp2_with fail
    go_loopw [10] (fun i wr => ∃ k : Nat, k ≤ len ∧ i = .int .i64 k ∧ RepsAt xs k ∧ All w wr) (fun i _ => len - (intOf i).toNat)
    case atStart => exact ⟨0, Nat.zero_le _, rfl, RepsAt.zero _, Kept.refl _ _⟩
    case round =>
      obtain ⟨k, hk, rfl, hat, hwr⟩ := hrel
      obtain ⟨wo, rfl⟩ : ∃ wo : World, wo = wr := ⟨_, rfl⟩
      have HA := Lib.hid hat
      clear hat
      by_cases hlt : k < len
      · obtain ⟨bq, oq, x, haq, -, q0, q1, q2, ⟨hz1, hz2⟩, hx, -, -⟩ := (HS.out _ hwr).atReply hlt
        subst haq
        have HX := Lib.hid hx
        have hblk := heap_at wo (.cells #[.string x.paper, .int .i64 x.tm, .string x.words] 79) _ rfl
        have hwa : All w (wo.alloc (.cells #[.string x.paper, .int .i64 x.tm, .string x.words] 79)) := hwr.then_alloc _
        have HC := Lib.hid (fun (wx : World) (k' : All (wo.alloc (.cells #[.string x.paper, .int .i64 x.tm, .string x.words] 79)) wx) => (⟨k'.cell (cell_at (i := 0) hblk rfl) trivial, k'.cell (cell_at (i := 1) hblk rfl) trivial, k'.cell (cell_at (i := 2) hblk rfl) trivial⟩ : _ ∧ _ ∧ _))
        obtain ⟨xb, hxb⟩ : ∃ k, k = wo.heap.size := ⟨_, rfl⟩
        have HXB := Lib.hid hxb
        rw [← hxb] at HC
        obtain ⟨p0, p1, p2⟩ := HC.out _ (Kept.refl _ _)
        clear hx hblk hxb
        cases hk1 : isKeyB x.paper with
        | false =>
          go_wp2_with fail
          simp only [← HXB.out]
          generalize wo.alloc (.cells #[.string x.paper, .int .i64 x.tm, .string x.words] 79) = wa at *
          clear q0 q1 q2
          refine (key_any x.paper _ (by omega)).mono ?_
          rintro e w2 ⟨rfl, hx⟩
          rw [hk1]
          clear p0 p1 p2
          obtain ⟨p0, p1, p2⟩ := HC.out _ hx
          have HF := Lib.hid (show er = _ from HSO.out.trans (HA.out.bad HX.out (repF_name hk1) (by decide)))
          go_wp2_with fail
          go_ret
          exact ⟨ret_int' HF.out.symm, hwa.trans hx⟩
        | true =>
          go_wp2_with fail
          simp only [← HXB.out]
          generalize wo.alloc (.cells #[.string x.paper, .int .i64 x.tm, .string x.words] 79) = wa at *
          clear q0 q1 q2
          refine (key_any x.paper _ (by omega)).mono ?_
          rintro e w2 ⟨rfl, hx⟩
          rw [hk1]
          clear p0 p1 p2
          obtain ⟨p0, p1, p2⟩ := HC.out _ hx
          have HK := Lib.hid hk1
          clear hk1
          by_cases htm : x.tm < 0 ∨ 5761440 ≤ x.tm
          · have HT := Lib.hid htm
            go_wp2_with fail
            refine (moment_any _ _).mono ?_
            rintro e w3 ⟨rfl, hh⟩
            subst hh
            rw [show decide (0 ≤ x.tm ∧ x.tm < 5761440) = false from by simp; omega]
            clear htm
            have HF := Lib.hid (show er = _ from HSO.out.trans (HA.out.bad HX.out (repF_arg HK.out HT.out) (by decide)))
            go_wp2_with fail
            go_ret
            exact ⟨ret_int' HF.out.symm, hwa.trans hx⟩
          · have HT := Lib.hid htm
            go_wp2_with fail
            refine (moment_any _ _).mono ?_
            rintro e w3 ⟨rfl, hh⟩
            subst hh
            rw [show decide (0 ≤ x.tm ∧ x.tm < 5761440) = true from by simp; omega]
            clear htm
            by_cases hw0 : x.words.size = 0
            · have he : x.words.toList = [] := toList_nil hw0
              have H0 := Lib.hid hw0
              clear hw0
              have HF := Lib.hid (show er = _ from HSO.out.trans (HA.out.bad HX.out (repF_none HK.out HT.out H0.out) (by decide)))
              go_wp2_with fail
              go_ret
              exact ⟨ret_int' HF.out.symm, hwa.trans hx⟩
            · have he : x.words.toList ≠ [] := toList_ne hw0
              have hde : x.words.toList.isEmpty = false := by simpa using he
              have H0 := Lib.hid hw0
              clear hw0
              go_wp2_with fail
              refine (isTextR_any x.words _ hz2 (HG.out _ (hwa.trans hx))).mono ?_
              rintro e w4 ⟨rfl, hw4⟩
              replace hx := hx.trans hw4
              clear p0 p1 p2
              obtain ⟨p0, p1, p2⟩ := HC.out _ hx
              cases htx : isTextB x.words with
              | false =>
                have HTX := Lib.hid htx
                have HF := Lib.hid (show er = _ from HSO.out.trans (HA.out.bad HX.out (repF_form HK.out HT.out H0.out HTX.out) (by decide)))
                go_wp2_with fail
                go_ret
                exact ⟨ret_int' HF.out.symm, hwa.trans hx⟩
              | true =>
                have HTX := Lib.hid htx
                clear htx
                by_cases hbg : 6000 < x.words.size
                · have dbig : decide ((6000 : Int) < (x.words.size : Int)) = true := by simp; omega
                  have HB := Lib.hid hbg
                  clear hbg
                  have HF := Lib.hid (show er = _ from HSO.out.trans (HA.out.bad HX.out (repF_large HK.out HT.out H0.out HTX.out HB.out) (by decide)))
                  go_wp2_with fail
                  go_ret
                  exact ⟨ret_int' HF.out.symm, hwa.trans hx⟩
                · have dbig : decide ((6000 : Int) < (x.words.size : Int)) = false := by simp; omega
                  have HNX := Lib.hid (HA.out.next HX.out (repF_ok HK.out HT.out H0.out HTX.out hbg))
                  clear hbg
                  go_wp2_with fail
                  go_roundw
                  case rel => exact ⟨k + 1, by omega, by go_num, HNX.out, hwa.trans hx⟩
                  case measure => simp [intOf]; omega
      · have hdk : decide ((k : Int) < (len : Int)) = false := by simp; omega
        have HOK := Lib.hid (show er = 0 from HSO.out.trans (HA.out.ok (by have := Hlen.out; omega)))
        go_wp2_with fail
        go_ret
        exact ⟨ret_int' HOK.out.symm, hwr⟩
      
end Go.Proofs.YtllkemadaemjeaaGreatDoor
