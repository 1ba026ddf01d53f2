/- CheckPosts and PostsFault answer postsF. -/
import Derived.Test.YtllkemadaemjeaaGreatDoorDq
import Derived.Test.YtllkemadaemjeaaGreatDoorBg
import Derived.Test.YtllkemadaemjeaaGreatDoorBf
namespace Go.Proofs.YtllkemadaemjeaaGreatDoor
open Go.RowKit

set_option maxRecDepth 100000 in
set_option maxHeartbeats 12800000 in
theorem checkPosts_any (a0 : Option Addr) (l0 c0 : Nat) (a1 : Option Addr) (l1 c1 : Nat) (a2 : Option Addr) (l2 c2 : Nat) (a3 : Option Addr) (l3 c3 : Nat) (b : Board4) (a : Option Addr) (len cap : Nat) (xs : List Post6) (w : World) (h : BoardIs w a0 l0 a1 l1 a2 l2 a3 l3 b) (hs : Sl RPost 6 (fun _ => True) w a len xs) (hl : len ≤ 1000000) (hcap : len ≤ cap) (hg : Tabs w) :
    Calls Tryz.prog 27 #[.agg #[.slice a0 l0 c0, .slice a1 l1 c1, .slice a2 l2 c2, .slice a3 l3 c3], .slice a len cap] w fun e w' => e = .returned (.int .i64 (postsF b xs)) ∧ All w w' := by
  have hk1 : All w (w.alloc (.cells #[.slice a0 l0 c0, .slice a1 l1 c1, .slice a2 l2 c2, .slice a3 l3 c3] 50)) := Kept.alloc _ _ _
  have hB := heap_at w (.cells #[.slice a0 l0 c0, .slice a1 l1 c1, .slice a2 l2 c2, .slice a3 l3 c3] 50) _ rfl
  have Hlen := Lib.hid hs.len
  have HI := Lib.hid (fun (wx : World) (k : All (w.alloc (.cells #[.slice a0 l0 c0, .slice a1 l1 c1, .slice a2 l2 c2, .slice a3 l3 c3] 50)) wx) => h.keep (hk1.trans k))
  have HS := Lib.hid (fun (wx : World) (k : All (w.alloc (.cells #[.slice a0 l0 c0, .slice a1 l1 c1, .slice a2 l2 c2, .slice a3 l3 c3] 50)) wx) => hs.keep RPost.ok (hk1.trans k))
  have HG := Lib.hid (fun (wx : World) (k : All (w.alloc (.cells #[.slice a0 l0 c0, .slice a1 l1 c1, .slice a2 l2 c2, .slice a3 l3 c3] 50)) wx) => hg.keep (hk1.trans k))
  have HC := Lib.hid (fun (wx : World) (k : All (w.alloc (.cells #[.slice a0 l0 c0, .slice a1 l1 c1, .slice a2 l2 c2, .slice a3 l3 c3] 50)) wx) => (⟨k.cell (cell_at (i := 0) hB rfl) trivial, k.cell (cell_at (i := 1) hB rfl) trivial, k.cell (cell_at (i := 2) hB rfl) trivial, k.cell (cell_at (i := 3) hB rfl) trivial⟩ : _ ∧ _ ∧ _ ∧ _))
  obtain ⟨bb, hbb⟩ : ∃ k, k = w.heap.size := ⟨_, rfl⟩
  have HBB := Lib.hid hbb
  rw [← hbb] at HC
  obtain ⟨er, her⟩ : ∃ e, e = postsF b xs := ⟨_, rfl⟩
  have HER := Lib.hid her
  rw [← her]
  obtain ⟨fb, hfb⟩ : ∃ e, e = boardF b := ⟨_, rfl⟩
  have HFB := Lib.hid hfb
  obtain ⟨b0, b1, b2, b3⟩ := HC.out _ (Kept.refl _ _)
  clear hB h hs hg hbb her hfb
  go_enter Tryz.func27, Tryz.ntmps27
  go_wp2_with fail
  simp only [← HBB.out]
  generalize w.alloc (.cells #[.slice a0 l0 c0, .slice a1 l1 c1, .slice a2 l2 c2, .slice a3 l3 c3] 50) = w1 at *
  refine (checkBoard_any a0 l0 c0 a1 l1 c1 a2 l2 c2 a3 l3 c3 b _ (HI.out _ (Kept.refl _ _))).mono ?_
  rintro e w2 ⟨rfl, hw2⟩
  rw [← HFB.out]
  clear b0 b1 b2 b3
  obtain ⟨b0, b1, b2, b3⟩ := HC.out _ hw2
  by_cases hf0 : fb = 0
  · have HF0 := Lib.hid (show boardF b = 0 from HFB.out.symm.trans hf0)
    subst hf0
    have HRI := Lib.hid (boardF_rises HF0.out)
    by_cases hbig : 2000 < len
    · have hd : decide ((2000 : Int) < (len : Int)) = true := by simp; omega
      have HF := Lib.hid (show er = 2 from HER.out.trans (postsF_large HF0.out (by have := Hlen.out; omega)))
      go_wp2_with fail
      go_ret
      exact ⟨ret_int' HF.out.symm, hk1.trans hw2⟩
    · have hd : decide ((2000 : Int) < (len : Int)) = false := by simp; omega
      have HSO := Lib.hid (show er = postsG b [] xs from HER.out.trans (postsF_some HF0.out (by have := Hlen.out; omega)))
      clear b0 b1 b2 b3
      go_wp2_with fail
      go_loopw [19] (fun i wr => ∃ k : Nat, k ≤ len ∧ i = .int .i64 k ∧ PostsAt b xs k ∧ All w1 wr) (fun i _ => len - (intOf i).toNat)
      case atStart => exact ⟨0, Nat.zero_le _, rfl, PostsAt.zero _ _, hw2⟩
      case round =>
        obtain ⟨k, hk, rfl, hat, hwr⟩ := hrel
        obtain ⟨wo, rfl⟩ : ∃ wo : World, wo = wr := ⟨_, rfl⟩
        have HA := Lib.hid hat
        clear hat
        by_cases hlt : k < len
        · have hsk := HS.out _ hwr
          obtain ⟨bq, oq, x, haq, -, q0, q1, q2, q3, q4, q5, hsm, hx, -⟩ := hsk.atPost hlt
          subst haq
          have HX := Lib.hid hx
          have hka : All wo (wo.alloc (.cells #[.int .i64 x.no, .int .i64 x.tm, .string x.paper, .string x.person, .int .i64 x.ans, .string x.words] 58)) := Kept.alloc _ _ _
          have hblk := heap_at wo (.cells #[.int .i64 x.no, .int .i64 x.tm, .string x.paper, .string x.person, .int .i64 x.ans, .string x.words] 58) _ rfl
          have hwa := hwr.trans hka
          have HPF := Lib.hid (fun (wx : World) (k' : All (wo.alloc (.cells #[.int .i64 x.no, .int .i64 x.tm, .string x.paper, .string x.person, .int .i64 x.ans, .string x.words] 58)) wx) => postFault_any a0 l0 c0 a1 l1 c1 a2 l2 c2 a3 l3 c3 b (some ⟨bq, oq, none⟩) k cap (xs.take k) x.no x.tm x.paper x.person x.ans x.words wx (HI.out _ (hwa.trans k')) HRI.out.1 HRI.out.2 ((hsk.keep RPost.ok (hka.trans k')).take (by omega)) (by omega) hsm (HG.out _ (hwa.trans k')))
          obtain ⟨b0, b1, b2, b3⟩ := HC.out _ hwa
          have p0 := cell_at (i := 0) hblk rfl
          have p1 := cell_at (i := 1) hblk rfl
          have p2 := cell_at (i := 2) hblk rfl
          have p3 := cell_at (i := 3) hblk rfl
          have p4 := cell_at (i := 4) hblk rfl
          have p5 := cell_at (i := 5) hblk rfl
          obtain ⟨xb, hxb⟩ : ∃ k, k = wo.heap.size := ⟨_, rfl⟩
          have HXB := Lib.hid hxb
          rw [← hxb] at p0 p1 p2 p3 p4 p5
          obtain ⟨ef, hef⟩ : ∃ e, e = postF b (xs.take k) ⟨x.no, x.tm, x.paper, x.person, x.ans, x.words⟩ := ⟨_, rfl⟩
          have HEF := Lib.hid hef
          rw [← hef] at HPF
          clear hx hblk hsk hxb hef hka hsm
          by_cases he0 : ef = 0
          · have HNX := Lib.hid (HA.out.next HX.out (HEF.out.symm.trans he0))
            subst he0
            go_wp2_with fail
            simp only [← HXB.out]
            generalize wo.alloc (.cells #[.int .i64 x.no, .int .i64 x.tm, .string x.paper, .string x.person, .int .i64 x.ans, .string x.words] 58) = wa at *
            clear q0 q1 q2 q3 q4 q5
            have hS1 : (0 : Int) ≤ (k : Int) := by omega
            have hS2 : (k : Int) ≤ (cap : Int) := by omega
            go_region_held3 (fun w' => w'.cell? ⟨bb, 0, none⟩ = some (.slice a0 l0 c0) ∧ w'.cell? ⟨bb, 1, none⟩ = some (.slice a1 l1 c1) ∧ w'.cell? ⟨bb, 2, none⟩ = some (.slice a2 l2 c2) ∧ w'.cell? ⟨bb, 3, none⟩ = some (.slice a3 l3 c3) ∧ w'.cell? ⟨xb, 0, none⟩ = some (.int .i64 x.no) ∧ w'.cell? ⟨xb, 1, none⟩ = some (.int .i64 x.tm) ∧ w'.cell? ⟨xb, 2, none⟩ = some (.string x.paper) ∧ w'.cell? ⟨xb, 3, none⟩ = some (.string x.person) ∧ w'.cell? ⟨xb, 4, none⟩ = some (.int .i64 x.ans) ∧ w'.cell? ⟨xb, 5, none⟩ = some (.string x.words)) (first | go_keep | exact ⟨by assumption, by assumption, by assumption, by assumption, by assumption, by assumption, by assumption, by assumption, by assumption, by assumption⟩) (first | (go_at_call 69; refine (HPF.out _ (by repeat (first | exact Kept.refl _ _ | refine Kept.then_drew ?_ | refine Kept.then_drewN ?_ _ | refine Kept.then_alloc ?_ _))).mono ?_; rintro e wq ⟨rfl, hq⟩; have hp1 : All wa wq := Kept.trans (by repeat (first | exact Kept.refl _ _ | refine Kept.then_drew ?_ | refine Kept.then_drewN ?_ _ | refine Kept.then_alloc ?_ _)) hq; have s0 := hp1.cell b0 trivial; have s1 := hp1.cell b1 trivial; have s2 := hp1.cell b2 trivial; have s3 := hp1.cell b3 trivial; have s4 := hp1.cell p0 trivial; have s5 := hp1.cell p1 trivial; have s6 := hp1.cell p2 trivial; have s7 := hp1.cell p3 trivial; have s8 := hp1.cell p4 trivial; have s9 := hp1.cell p5 trivial))
            go_wp2_with fail
            go_roundw
            case rel => exact ⟨k + 1, by omega, by go_num, HNX.out, hwa.trans hp1⟩
            case measure => simp [intOf]; omega
          · have hne : (ef != 0) = true := by simpa using he0
            have HBD := Lib.hid (show er = ef from HSO.out.trans (HA.out.bad HX.out HEF.out.symm he0))
            clear he0
            go_wp2_with fail
            simp only [← HXB.out]
            generalize wo.alloc (.cells #[.int .i64 x.no, .int .i64 x.tm, .string x.paper, .string x.person, .int .i64 x.ans, .string x.words] 58) = wa at *
            clear q0 q1 q2 q3 q4 q5
            have hS1 : (0 : Int) ≤ (k : Int) := by omega
            have hS2 : (k : Int) ≤ (cap : Int) := by omega
            go_region_held3 (fun w' => w'.cell? ⟨bb, 0, none⟩ = some (.slice a0 l0 c0) ∧ w'.cell? ⟨bb, 1, none⟩ = some (.slice a1 l1 c1) ∧ w'.cell? ⟨bb, 2, none⟩ = some (.slice a2 l2 c2) ∧ w'.cell? ⟨bb, 3, none⟩ = some (.slice a3 l3 c3) ∧ w'.cell? ⟨xb, 0, none⟩ = some (.int .i64 x.no) ∧ w'.cell? ⟨xb, 1, none⟩ = some (.int .i64 x.tm) ∧ w'.cell? ⟨xb, 2, none⟩ = some (.string x.paper) ∧ w'.cell? ⟨xb, 3, none⟩ = some (.string x.person) ∧ w'.cell? ⟨xb, 4, none⟩ = some (.int .i64 x.ans) ∧ w'.cell? ⟨xb, 5, none⟩ = some (.string x.words)) (first | go_keep | exact ⟨by assumption, by assumption, by assumption, by assumption, by assumption, by assumption, by assumption, by assumption, by assumption, by assumption⟩) (first | (go_at_call 69; refine (HPF.out _ (by repeat (first | exact Kept.refl _ _ | refine Kept.then_drew ?_ | refine Kept.then_drewN ?_ _ | refine Kept.then_alloc ?_ _))).mono ?_; rintro e wq ⟨rfl, hq⟩; have hp1 : All wa wq := Kept.trans (by repeat (first | exact Kept.refl _ _ | refine Kept.then_drew ?_ | refine Kept.then_drewN ?_ _ | refine Kept.then_alloc ?_ _)) hq; have s0 := hp1.cell b0 trivial; have s1 := hp1.cell b1 trivial; have s2 := hp1.cell b2 trivial; have s3 := hp1.cell b3 trivial; have s4 := hp1.cell p0 trivial; have s5 := hp1.cell p1 trivial; have s6 := hp1.cell p2 trivial; have s7 := hp1.cell p3 trivial; have s8 := hp1.cell p4 trivial; have s9 := hp1.cell p5 trivial))
            go_wp2_with fail
            go_ret
            exact ⟨ret_int' HBD.out.symm, hk1.trans (hwa.trans hp1)⟩
        · have hdk : decide ((k : Int) < (len : Int)) = false := by simp; omega
          have HOK := Lib.hid (show er = 0 from HSO.out.trans (HA.out.ok (by have := Hlen.out; omega)))
          go_wp2_with fail
          go_ret
          exact ⟨ret_int' HOK.out.symm, hk1.trans hwr⟩
  · have hne : (fb != 0) = true := by simpa using hf0
    have HF := Lib.hid (show er = fb from HER.out.trans ((postsF_board (by rw [← HFB.out]; exact hf0)).trans HFB.out.symm))
    clear hf0
    go_wp2_with fail
    go_ret
    exact ⟨ret_int' HF.out.symm, hk1.trans hw2⟩

set_option maxRecDepth 100000 in
set_option maxHeartbeats 12800000 in
theorem postsFault_any (a0 : Option Addr) (l0 c0 : Nat) (a1 : Option Addr) (l1 c1 : Nat) (a2 : Option Addr) (l2 c2 : Nat) (a3 : Option Addr) (l3 c3 : Nat) (b : Board4) (a : Option Addr) (len cap : Nat) (xs : List Post6) (w : World) (h : BoardIs w a0 l0 a1 l1 a2 l2 a3 l3 b) (hc3 : l3 ≤ c3) (hs : Sl RPost 6 (fun _ => True) w a len xs) (hl : len ≤ 1000000) (hcap : len ≤ cap) (hg : Tabs w) :
    Calls Tryz.prog 26 #[.agg #[.slice a0 l0 c0, .slice a1 l1 c1, .slice a2 l2 c2, .slice a3 l3 c3], .slice a len cap] w fun e w' => e = .returned (.int .i64 (postsF b xs)) ∧ All w w' := by
  have hk1 : All w (w.alloc (.cells #[.slice a0 l0 c0, .slice a1 l1 c1, .slice a2 l2 c2, .slice a3 l3 c3] 50)) := Kept.alloc _ _ _
  have hB := heap_at w (.cells #[.slice a0 l0 c0, .slice a1 l1 c1, .slice a2 l2 c2, .slice a3 l3 c3] 50) _ rfl
  have Hlen := Lib.hid hs.len
  have HI := Lib.hid (fun (wx : World) (k : All (w.alloc (.cells #[.slice a0 l0 c0, .slice a1 l1 c1, .slice a2 l2 c2, .slice a3 l3 c3] 50)) wx) => h.keep (hk1.trans k))
  have HS := Lib.hid (fun (wx : World) (k : All (w.alloc (.cells #[.slice a0 l0 c0, .slice a1 l1 c1, .slice a2 l2 c2, .slice a3 l3 c3] 50)) wx) => hs.keep RPost.ok (hk1.trans k))
  have HG := Lib.hid (fun (wx : World) (k : All (w.alloc (.cells #[.slice a0 l0 c0, .slice a1 l1 c1, .slice a2 l2 c2, .slice a3 l3 c3] 50)) wx) => hg.keep (hk1.trans k))
  have HC := Lib.hid (fun (wx : World) (k : All (w.alloc (.cells #[.slice a0 l0 c0, .slice a1 l1 c1, .slice a2 l2 c2, .slice a3 l3 c3] 50)) wx) => (⟨k.cell (cell_at (i := 0) hB rfl) trivial, k.cell (cell_at (i := 1) hB rfl) trivial, k.cell (cell_at (i := 2) hB rfl) trivial, k.cell (cell_at (i := 3) hB rfl) trivial⟩ : _ ∧ _ ∧ _ ∧ _))
  obtain ⟨bb, hbb⟩ : ∃ k, k = w.heap.size := ⟨_, rfl⟩
  have HBB := Lib.hid hbb
  rw [← hbb] at HC
  obtain ⟨er, her⟩ : ∃ e, e = postsF b xs := ⟨_, rfl⟩
  have HER := Lib.hid her
  rw [← her]
  obtain ⟨fb, hfb⟩ : ∃ e, e = boardF b := ⟨_, rfl⟩
  have HFB := Lib.hid hfb
  obtain ⟨b0, b1, b2, b3⟩ := HC.out _ (Kept.refl _ _)
  clear hB h hs hg hbb her hfb
  go_enter Tryz.func26, Tryz.ntmps26
  go_wp2_with fail
  simp only [← HBB.out]
  generalize w.alloc (.cells #[.slice a0 l0 c0, .slice a1 l1 c1, .slice a2 l2 c2, .slice a3 l3 c3] 50) = w1 at *
  refine (boardFault_any a0 l0 c0 a1 l1 c1 a2 l2 c2 a3 l3 c3 b _ (HI.out _ (Kept.refl _ _)) hc3).mono ?_
  rintro e w2 ⟨rfl, hw2⟩
  rw [← HFB.out]
  clear b0 b1 b2 b3
  obtain ⟨b0, b1, b2, b3⟩ := HC.out _ hw2
  by_cases hf0 : fb = 0
  · have HF0 := Lib.hid (show boardF b = 0 from HFB.out.symm.trans hf0)
    subst hf0
    by_cases hbig : 2000 < len
    · have hd : decide ((2000 : Int) < (len : Int)) = true := by simp; omega
      have HF := Lib.hid (show er = 2 from HER.out.trans (postsF_large HF0.out (by have := Hlen.out; omega)))
      go_wp2_with fail
      go_ret
      exact ⟨ret_int' HF.out.symm, hk1.trans hw2⟩
    · have hd : decide ((2000 : Int) < (len : Int)) = false := by simp; omega
      have HSO := Lib.hid (show er = postsG b [] xs from HER.out.trans (postsF_some HF0.out (by have := Hlen.out; omega)))
      clear b0 b1 b2 b3
      go_wp2_with fail
      go_loopw [19] (fun i wr => ∃ k : Nat, k ≤ len ∧ i = .int .i64 k ∧ PostsAt b xs k ∧ All w1 wr) (fun i _ => len - (intOf i).toNat)
      case atStart => exact ⟨0, Nat.zero_le _, rfl, PostsAt.zero _ _, hw2⟩
      case round =>
        obtain ⟨k, hk, rfl, hat, hwr⟩ := hrel
        obtain ⟨wo, rfl⟩ : ∃ wo : World, wo = wr := ⟨_, rfl⟩
        have HA := Lib.hid hat
        clear hat
        by_cases hlt : k < len
        · have hsk := HS.out _ hwr
          obtain ⟨bq, oq, x, haq, -, q0, q1, q2, q3, q4, q5, hsm, hx, -⟩ := hsk.atPost hlt
          subst haq
          have HX := Lib.hid hx
          have hka : All wo (wo.alloc (.cells #[.int .i64 x.no, .int .i64 x.tm, .string x.paper, .string x.person, .int .i64 x.ans, .string x.words] 58)) := Kept.alloc _ _ _
          have hblk := heap_at wo (.cells #[.int .i64 x.no, .int .i64 x.tm, .string x.paper, .string x.person, .int .i64 x.ans, .string x.words] 58) _ rfl
          have hwa := hwr.trans hka
          have HPF := Lib.hid (fun (wx : World) (k' : All (wo.alloc (.cells #[.int .i64 x.no, .int .i64 x.tm, .string x.paper, .string x.person, .int .i64 x.ans, .string x.words] 58)) wx) => postFaultR_any a0 l0 c0 a1 l1 c1 a2 l2 c2 a3 l3 c3 b (some ⟨bq, oq, none⟩) k cap (xs.take k) x.no x.tm x.paper x.person x.ans x.words wx (HI.out _ (hwa.trans k')) ((hsk.keep RPost.ok (hka.trans k')).take (by omega)) (by omega) hsm (HG.out _ (hwa.trans k')))
          obtain ⟨b0, b1, b2, b3⟩ := HC.out _ hwa
          have p0 := cell_at (i := 0) hblk rfl
          have p1 := cell_at (i := 1) hblk rfl
          have p2 := cell_at (i := 2) hblk rfl
          have p3 := cell_at (i := 3) hblk rfl
          have p4 := cell_at (i := 4) hblk rfl
          have p5 := cell_at (i := 5) hblk rfl
          obtain ⟨xb, hxb⟩ : ∃ k, k = wo.heap.size := ⟨_, rfl⟩
          have HXB := Lib.hid hxb
          rw [← hxb] at p0 p1 p2 p3 p4 p5
          obtain ⟨ef, hef⟩ : ∃ e, e = postF b (xs.take k) ⟨x.no, x.tm, x.paper, x.person, x.ans, x.words⟩ := ⟨_, rfl⟩
          have HEF := Lib.hid hef
          rw [← hef] at HPF
          clear hx hblk hsk hxb hef hka hsm
          by_cases he0 : ef = 0
          · have HNX := Lib.hid (HA.out.next HX.out (HEF.out.symm.trans he0))
            subst he0
            go_wp2_with fail
            simp only [← HXB.out]
            generalize wo.alloc (.cells #[.int .i64 x.no, .int .i64 x.tm, .string x.paper, .string x.person, .int .i64 x.ans, .string x.words] 58) = wa at *
            clear q0 q1 q2 q3 q4 q5
            have hS1 : (0 : Int) ≤ (k : Int) := by omega
            have hS2 : (k : Int) ≤ (cap : Int) := by omega
            go_region_held3 (fun w' => w'.cell? ⟨bb, 0, none⟩ = some (.slice a0 l0 c0) ∧ w'.cell? ⟨bb, 1, none⟩ = some (.slice a1 l1 c1) ∧ w'.cell? ⟨bb, 2, none⟩ = some (.slice a2 l2 c2) ∧ w'.cell? ⟨bb, 3, none⟩ = some (.slice a3 l3 c3) ∧ w'.cell? ⟨xb, 0, none⟩ = some (.int .i64 x.no) ∧ w'.cell? ⟨xb, 1, none⟩ = some (.int .i64 x.tm) ∧ w'.cell? ⟨xb, 2, none⟩ = some (.string x.paper) ∧ w'.cell? ⟨xb, 3, none⟩ = some (.string x.person) ∧ w'.cell? ⟨xb, 4, none⟩ = some (.int .i64 x.ans) ∧ w'.cell? ⟨xb, 5, none⟩ = some (.string x.words)) (first | go_keep | exact ⟨by assumption, by assumption, by assumption, by assumption, by assumption, by assumption, by assumption, by assumption, by assumption, by assumption⟩) (first | (go_at_call 71; refine (HPF.out _ (by repeat (first | exact Kept.refl _ _ | refine Kept.then_drew ?_ | refine Kept.then_drewN ?_ _ | refine Kept.then_alloc ?_ _))).mono ?_; rintro e wq ⟨rfl, hq⟩; have hp1 : All wa wq := Kept.trans (by repeat (first | exact Kept.refl _ _ | refine Kept.then_drew ?_ | refine Kept.then_drewN ?_ _ | refine Kept.then_alloc ?_ _)) hq; have s0 := hp1.cell b0 trivial; have s1 := hp1.cell b1 trivial; have s2 := hp1.cell b2 trivial; have s3 := hp1.cell b3 trivial; have s4 := hp1.cell p0 trivial; have s5 := hp1.cell p1 trivial; have s6 := hp1.cell p2 trivial; have s7 := hp1.cell p3 trivial; have s8 := hp1.cell p4 trivial; have s9 := hp1.cell p5 trivial))
            go_wp2_with fail
            go_roundw
            case rel => exact ⟨k + 1, by omega, by go_num, HNX.out, hwa.trans hp1⟩
            case measure => simp [intOf]; omega
          · have hne : (ef != 0) = true := by simpa using he0
            have HBD := Lib.hid (show er = ef from HSO.out.trans (HA.out.bad HX.out HEF.out.symm he0))
            clear he0
            go_wp2_with fail
            simp only [← HXB.out]
            generalize wo.alloc (.cells #[.int .i64 x.no, .int .i64 x.tm, .string x.paper, .string x.person, .int .i64 x.ans, .string x.words] 58) = wa at *
            clear q0 q1 q2 q3 q4 q5
            have hS1 : (0 : Int) ≤ (k : Int) := by omega
            have hS2 : (k : Int) ≤ (cap : Int) := by omega
            go_region_held3 (fun w' => w'.cell? ⟨bb, 0, none⟩ = some (.slice a0 l0 c0) ∧ w'.cell? ⟨bb, 1, none⟩ = some (.slice a1 l1 c1) ∧ w'.cell? ⟨bb, 2, none⟩ = some (.slice a2 l2 c2) ∧ w'.cell? ⟨bb, 3, none⟩ = some (.slice a3 l3 c3) ∧ w'.cell? ⟨xb, 0, none⟩ = some (.int .i64 x.no) ∧ w'.cell? ⟨xb, 1, none⟩ = some (.int .i64 x.tm) ∧ w'.cell? ⟨xb, 2, none⟩ = some (.string x.paper) ∧ w'.cell? ⟨xb, 3, none⟩ = some (.string x.person) ∧ w'.cell? ⟨xb, 4, none⟩ = some (.int .i64 x.ans) ∧ w'.cell? ⟨xb, 5, none⟩ = some (.string x.words)) (first | go_keep | exact ⟨by assumption, by assumption, by assumption, by assumption, by assumption, by assumption, by assumption, by assumption, by assumption, by assumption⟩) (first | (go_at_call 71; refine (HPF.out _ (by repeat (first | exact Kept.refl _ _ | refine Kept.then_drew ?_ | refine Kept.then_drewN ?_ _ | refine Kept.then_alloc ?_ _))).mono ?_; rintro e wq ⟨rfl, hq⟩; have hp1 : All wa wq := Kept.trans (by repeat (first | exact Kept.refl _ _ | refine Kept.then_drew ?_ | refine Kept.then_drewN ?_ _ | refine Kept.then_alloc ?_ _)) hq; have s0 := hp1.cell b0 trivial; have s1 := hp1.cell b1 trivial; have s2 := hp1.cell b2 trivial; have s3 := hp1.cell b3 trivial; have s4 := hp1.cell p0 trivial; have s5 := hp1.cell p1 trivial; have s6 := hp1.cell p2 trivial; have s7 := hp1.cell p3 trivial; have s8 := hp1.cell p4 trivial; have s9 := hp1.cell p5 trivial))
            go_wp2_with fail
            go_ret
            exact ⟨ret_int' HBD.out.symm, hk1.trans (hwa.trans hp1)⟩
        · have hdk : decide ((k : Int) < (len : Int)) = false := by simp; omega
          have HOK := Lib.hid (show er = 0 from HSO.out.trans (HA.out.ok (by have := Hlen.out; omega)))
          go_wp2_with fail
          go_ret
          exact ⟨ret_int' HOK.out.symm, hk1.trans hwr⟩
  · have hne : (fb != 0) = true := by simpa using hf0
    have HF := Lib.hid (show er = fb from HER.out.trans ((postsF_board (by rw [← HFB.out]; exact hf0)).trans HFB.out.symm))
    clear hf0
    go_wp2_with fail
    go_ret
    exact ⟨ret_int' HF.out.symm, hk1.trans hw2⟩

end Go.Proofs.YtllkemadaemjeaaGreatDoor
