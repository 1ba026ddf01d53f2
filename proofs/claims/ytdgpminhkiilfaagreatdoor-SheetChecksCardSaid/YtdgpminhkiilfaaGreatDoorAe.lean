/- The error of answers; the questions that need an answer. -/
import Derived.Test.YtdgpminhkiilfaaGreatDoorAd
namespace Go.Proofs.YtdgpminhkiilfaaGreatDoor
open Go.RowKit


set_option maxRecDepth 100000 in
set_option maxHeartbeats 6400000 in
theorem answersFault_any (a : Option Addr) (len cap : Nat) (xs : List Qst) (a2 : Option Addr) (l2 cz : Nat) (ys : List Ans4) (w : World) (hs : Sl RQst 6 (fun _ => True) w a len xs) (hl : len ≤ 1000000) (hy : Sl RAns 4 (fun _ => True) w a2 l2 ys) (hg : Tabs w) :
    Calls Tryz.prog 40 #[.slice a len cap, .slice a2 l2 cz] w fun e w' => e = .returned (.int .i64 (answersF xs ys)) ∧ All w w' := by
  have Hlen := Lib.hid hs.len
  have Hly := Lib.hid hy.len
  have HG := Lib.hid (fun (wx : World) (h : All w wx) => hg.keep h)
  have HSQ := Lib.hid (fun (wx : World) (h : All w wx) => hs.keep RQst.ok h)
  clear hg hs
  by_cases hbig : 30 < l2
  · have hfin := Lib.hid (answersF_large (sheet := xs) (l := ys) (by have := Hly.out; omega))
    have hd : decide ((30 : Int) < (l2 : Int)) = true := by simp; omega
    clear hy
    go_enter Tryz.func40, Tryz.ntmps40
    go_wp2_with fail
    go_ret
    exact ⟨ret_int' hfin.out.symm, Kept.refl _ _⟩
  have hfin := Lib.hid (answersF_some (sheet := xs) (l := ys) (by have := Hly.out; omega))
  have hd : decide ((30 : Int) < (l2 : Int)) = false := by simp; omega
  go_enter Tryz.func40, Tryz.ntmps40
  go_wp2_with fail
  go_loopw [5, 15] (fun lv i wr => ∃ k : Nat, k ≤ l2 ∧ i = .int .i64 k ∧ lv = .int .i64 (lastQ xs (ys.take k)) ∧ AnsAt xs ys k ∧ All w wr) (fun _ i _ => l2 - (intOf i).toNat)
  case atStart => exact ⟨0, Nat.zero_le _, rfl, by rw [lastQ_zero], AnsAt.zero _ _, Kept.refl _ _⟩
  case round =>
    obtain ⟨k, hk, rfl, rfl, hat, hwr⟩ := hrel
    obtain ⟨wo, rfl⟩ : ∃ wo : World, wo = wr := ⟨_, rfl⟩
    have HA := Lib.hid hat
    obtain ⟨lq, hlq⟩ : ∃ z, z = lastQ xs (ys.take k) := ⟨_, rfl⟩
    have HLQ := Lib.hid hlq
    rw [← hlq]
    clear hat hlq
    by_cases hlt : k < l2
    · obtain ⟨b2, off2, x, ha2, -, d0, d1, d2, d3, hxs, hx, -⟩ := (hy.keep RAns.ok hwr).atAns hlt
      subst ha2
      have Hx := Lib.hid hx
      have hwa := hwr.then_alloc (.cells #[.string x.question, .int .i64 x.number, .string x.option, .string x.words] 78)
      have hblk := heap_at wo (.cells #[.string x.question, .int .i64 x.number, .string x.option, .string x.words] 78) _ rfl
      have e0 := cell_at (i := 0) hblk rfl
      have e1 := cell_at (i := 1) hblk rfl
      have e2 := cell_at (i := 2) hblk rfl
      have e3 := cell_at (i := 3) hblk rfl
      have HP := Lib.hid (place_any a len cap xs x.question _ (HSQ.out _ hwa) hl)
      clear hx hblk hy
      rcases findG_find (p := isQ x.question) (xs := xs) (k := 0) with ⟨hn, hf⟩ | ⟨i, q, hn, hf, hi⟩
      · have hbad := Lib.hid (HA.out.none Hx.out hn)
        clear hn
        go_wp2_with fail
        refine HP.out.mono ?_
        rintro e w2 ⟨rfl, hw2⟩
        rw [hf]
        clear hf
        go_wp2_with fail
        go_ret
        exact ⟨ret_int' (by rw [hfin.out]; exact hbad.out.symm), hwa.trans hw2⟩
      · rw [Nat.zero_add] at hf
        have HN := Lib.hid hn
        have HF := Lib.hid hf
        have Hi := Lib.hid hi
        have hil : i < len := by have := (List.getElem?_eq_some_iff.1 hi).1; have := Hlen.out; omega
        have hi0 : decide ((i : Int) < 0) = false := by simp
        have hi1 : (0 : Int) ≤ (i : Int) := by omega
        have hi2 : (i : Int) < (len : Int) := by omega
        clear hn hi
        by_cases ho : (i : Int) ≤ lq
        · have hbad := Lib.hid (HA.out.order Hx.out HN.out (by rw [HF.out, ← HLQ.out]; exact ho))
          have hdo : decide ((i : Int) ≤ lq) = true := by simpa using ho
          go_wp2_with fail
          refine HP.out.mono ?_
          rintro e w2 ⟨rfl, hw2⟩
          rw [hf]
          clear hf
          go_wp2_with fail
          go_ret
          exact ⟨ret_int' (by rw [hfin.out]; exact hbad.out.symm), hwa.trans hw2⟩
        · have HO := Lib.hid (show ¬ findG (isQ x.question) 0 xs ≤ lastQ xs (ys.take k) by rw [HF.out, ← HLQ.out]; exact ho)
          have hdo : decide ((i : Int) ≤ lq) = false := by simpa using ho
          clear ho
          go_wp2_with fail
          refine HP.out.mono ?_
          rintro e w2 ⟨rfl, hw2⟩
          rw [hf]
          clear hf
          have hwb := hwa.trans hw2
          have f0 := hw2.cell e0 trivial
          have f1 := hw2.cell e1 trivial
          have f2 := hw2.cell e2 trivial
          have f3 := hw2.cell e3 trivial
          obtain ⟨b, off, q', oa, oc, ha, -, c0, c1, c2, c3, c4, c5, hcp, hqs, hos, hqi, -⟩ := (HSQ.out w2 hwb).atQst (k := i) hil
          subst ha
          obtain rfl : q' = q := Option.some.inj (hqi.symm.trans Hi.out)
          obtain ⟨z, hz⟩ : ∃ z, z = answerF q' x := ⟨_, rfl⟩
          have HAF := Lib.hid (fun (wx : World) (h : All w2 wx) => answerFault_any q' x oa oc wx hqs hxs (hos.keep RStr.ok h) (HG.out wx (hwb.trans h)))
          rw [← hz] at HAF
          have HZ := Lib.hid hz
          clear hos hqi hwa hw2 e0 e1 e2 e3 HP hz hqs hxs hcp
          by_cases hz0 : z = 0
          · subst hz0
            have HNX := Lib.hid (HA.out.next Hx.out HN.out (by have := HO.out; omega) HZ.out.symm)
            go_wp2_with fail
            go_region_held3 (fun w' => w'.cell? ⟨b, off + i * 6, none⟩ = some (.string q'.key) ∧ w'.cell? ⟨b, off + i * 6 + 1, none⟩ = some (.int .i64 q'.kind) ∧ w'.cell? ⟨b, off + i * 6 + 2, none⟩ = some (.int .i64 q'.most) ∧ w'.cell? ⟨b, off + i * 6 + 3, none⟩ = some (.slice oa q'.opts.length oc) ∧ w'.cell? ⟨b, off + i * 6 + 4, none⟩ = some (.bool q'.needed) ∧ w'.cell? ⟨b, off + i * 6 + 5, none⟩ = some (.bool q'.secret) ∧ w'.cell? ⟨wo.heap.size, 0, none⟩ = some (.string x.question) ∧ w'.cell? ⟨wo.heap.size, 1, none⟩ = some (.int .i64 x.number) ∧ w'.cell? ⟨wo.heap.size, 2, none⟩ = some (.string x.option) ∧ w'.cell? ⟨wo.heap.size, 3, none⟩ = some (.string x.words)) (first | go_keep | exact ⟨by assumption, by assumption, by assumption, by assumption, by assumption, by assumption, by assumption, by assumption, by assumption, by assumption⟩) (first | (go_at_call 85; refine (HAF.out _ (by repeat (first | exact Kept.refl _ _ | refine Kept.then_drew ?_ | refine Kept.then_drewN ?_ _ | refine Kept.then_alloc ?_ _))).mono ?_; rintro e wq ⟨rfl, hq⟩; have hp1 : All w2 wq := Kept.trans (by repeat (first | exact Kept.refl _ _ | refine Kept.then_drew ?_ | refine Kept.then_drewN ?_ _ | refine Kept.then_alloc ?_ _)) hq; have m0 := hp1.cell c0 trivial; have m1 := hp1.cell c1 trivial; have m2 := hp1.cell c2 trivial; have m3 := hp1.cell c3 trivial; have m4 := hp1.cell c4 trivial; have m5 := hp1.cell c5 trivial; have n0 := hp1.cell f0 trivial; have n1 := hp1.cell f1 trivial; have n2 := hp1.cell f2 trivial; have n3 := hp1.cell f3 trivial))
            go_wp2_with fail
            go_roundw
            case rel => exact ⟨k + 1, by omega, by go_num, by rw [lastQ_succ Hx.out, HF.out], HNX.out, hwb.trans hp1⟩
            case measure => simp [intOf]; omega
          · have hz1 : (z == 0) = false := by simpa using hz0
            have hbad := Lib.hid (HA.out.bad Hx.out HN.out (by have := HO.out; omega) HZ.out.symm hz0)
            go_wp2_with fail
            go_region_held3 (fun w' => w'.cell? ⟨b, off + i * 6, none⟩ = some (.string q'.key) ∧ w'.cell? ⟨b, off + i * 6 + 1, none⟩ = some (.int .i64 q'.kind) ∧ w'.cell? ⟨b, off + i * 6 + 2, none⟩ = some (.int .i64 q'.most) ∧ w'.cell? ⟨b, off + i * 6 + 3, none⟩ = some (.slice oa q'.opts.length oc) ∧ w'.cell? ⟨b, off + i * 6 + 4, none⟩ = some (.bool q'.needed) ∧ w'.cell? ⟨b, off + i * 6 + 5, none⟩ = some (.bool q'.secret) ∧ w'.cell? ⟨wo.heap.size, 0, none⟩ = some (.string x.question) ∧ w'.cell? ⟨wo.heap.size, 1, none⟩ = some (.int .i64 x.number) ∧ w'.cell? ⟨wo.heap.size, 2, none⟩ = some (.string x.option) ∧ w'.cell? ⟨wo.heap.size, 3, none⟩ = some (.string x.words)) (first | go_keep | exact ⟨by assumption, by assumption, by assumption, by assumption, by assumption, by assumption, by assumption, by assumption, by assumption, by assumption⟩) (first | (go_at_call 85; refine (HAF.out _ (by repeat (first | exact Kept.refl _ _ | refine Kept.then_drew ?_ | refine Kept.then_drewN ?_ _ | refine Kept.then_alloc ?_ _))).mono ?_; rintro e wq ⟨rfl, hq⟩; have hp1 : All w2 wq := Kept.trans (by repeat (first | exact Kept.refl _ _ | refine Kept.then_drew ?_ | refine Kept.then_drewN ?_ _ | refine Kept.then_alloc ?_ _)) hq; have m0 := hp1.cell c0 trivial; have m1 := hp1.cell c1 trivial; have m2 := hp1.cell c2 trivial; have m3 := hp1.cell c3 trivial; have m4 := hp1.cell c4 trivial; have m5 := hp1.cell c5 trivial; have n0 := hp1.cell f0 trivial; have n1 := hp1.cell f1 trivial; have n2 := hp1.cell f2 trivial; have n3 := hp1.cell f3 trivial))
            go_wp2_with fail
            go_ret
            exact ⟨ret_int' (by rw [hfin.out]; exact hbad.out.symm), hwb.trans hp1⟩
    · have hdk : decide ((k : Int) < (l2 : Int)) = false := by simp; omega
      go_wp2_with fail
      go_ret
      exact ⟨ret_int' (by rw [hfin.out]; exact (HA.out.ok (by have := Hly.out; omega)).symm), hwr⟩

set_option maxRecDepth 100000 in
set_option maxHeartbeats 6400000 in
theorem answersFaultR_any (a : Option Addr) (len cap : Nat) (xs : List Qst) (a2 : Option Addr) (l2 cz : Nat) (ys : List Ans4) (w : World) (hs : Sl RQst 6 (fun _ => True) w a len xs) (hl : len ≤ 1000000) (hy : Sl RAns 4 (fun _ => True) w a2 l2 ys) (hg : Tabs w) :
    Calls Tryz.prog 13 #[.slice a len cap, .slice a2 l2 cz] w fun e w' => e = .returned (.int .i64 (answersF xs ys)) ∧ All w w' := by
  have Hlen := Lib.hid hs.len
  have Hly := Lib.hid hy.len
  have HG := Lib.hid (fun (wx : World) (h : All w wx) => hg.keep h)
  have HSQ := Lib.hid (fun (wx : World) (h : All w wx) => hs.keep RQst.ok h)
  clear hg hs
  by_cases hbig : 30 < l2
  · have hfin := Lib.hid (answersF_large (sheet := xs) (l := ys) (by have := Hly.out; omega))
    have hd : decide ((30 : Int) < (l2 : Int)) = true := by simp; omega
    clear hy
    go_enter Tryz.func13, Tryz.ntmps13
    go_wp2_with fail
    go_ret
    exact ⟨ret_int' hfin.out.symm, Kept.refl _ _⟩
  have hfin := Lib.hid (answersF_some (sheet := xs) (l := ys) (by have := Hly.out; omega))
  have hd : decide ((30 : Int) < (l2 : Int)) = false := by simp; omega
  go_enter Tryz.func13, Tryz.ntmps13
  go_wp2_with fail
  go_loopw [5, 15] (fun lv i wr => ∃ k : Nat, k ≤ l2 ∧ i = .int .i64 k ∧ lv = .int .i64 (lastQ xs (ys.take k)) ∧ AnsAt xs ys k ∧ All w wr) (fun _ i _ => l2 - (intOf i).toNat)
  case atStart => exact ⟨0, Nat.zero_le _, rfl, by rw [lastQ_zero], AnsAt.zero _ _, Kept.refl _ _⟩
  case round =>
    obtain ⟨k, hk, rfl, rfl, hat, hwr⟩ := hrel
    obtain ⟨wo, rfl⟩ : ∃ wo : World, wo = wr := ⟨_, rfl⟩
    have HA := Lib.hid hat
    obtain ⟨lq, hlq⟩ : ∃ z, z = lastQ xs (ys.take k) := ⟨_, rfl⟩
    have HLQ := Lib.hid hlq
    rw [← hlq]
    clear hat hlq
    by_cases hlt : k < l2
    · obtain ⟨b2, off2, x, ha2, -, d0, d1, d2, d3, hxs, hx, -⟩ := (hy.keep RAns.ok hwr).atAns hlt
      subst ha2
      have Hx := Lib.hid hx
      have hwa := hwr.then_alloc (.cells #[.string x.question, .int .i64 x.number, .string x.option, .string x.words] 78)
      have hblk := heap_at wo (.cells #[.string x.question, .int .i64 x.number, .string x.option, .string x.words] 78) _ rfl
      have e0 := cell_at (i := 0) hblk rfl
      have e1 := cell_at (i := 1) hblk rfl
      have e2 := cell_at (i := 2) hblk rfl
      have e3 := cell_at (i := 3) hblk rfl
      have HP := Lib.hid (questionAt_any a len cap xs x.question _ (HSQ.out _ hwa) hl)
      clear hx hblk hy
      rcases findG_find (p := isQ x.question) (xs := xs) (k := 0) with ⟨hn, hf⟩ | ⟨i, q, hn, hf, hi⟩
      · have hbad := Lib.hid (HA.out.none Hx.out hn)
        clear hn
        go_wp2_with fail
        refine HP.out.mono ?_
        rintro e w2 ⟨rfl, hw2⟩
        rw [hf]
        clear hf
        go_wp2_with fail
        go_ret
        exact ⟨ret_int' (by rw [hfin.out]; exact hbad.out.symm), hwa.trans hw2⟩
      · rw [Nat.zero_add] at hf
        have HN := Lib.hid hn
        have HF := Lib.hid hf
        have Hi := Lib.hid hi
        have hil : i < len := by have := (List.getElem?_eq_some_iff.1 hi).1; have := Hlen.out; omega
        have hi0 : decide ((i : Int) < 0) = false := by simp
        have hi1 : (0 : Int) ≤ (i : Int) := by omega
        have hi2 : (i : Int) < (len : Int) := by omega
        clear hn hi
        by_cases ho : (i : Int) ≤ lq
        · have hbad := Lib.hid (HA.out.order Hx.out HN.out (by rw [HF.out, ← HLQ.out]; exact ho))
          have hdo : decide ((i : Int) ≤ lq) = true := by simpa using ho
          go_wp2_with fail
          refine HP.out.mono ?_
          rintro e w2 ⟨rfl, hw2⟩
          rw [hf]
          clear hf
          go_wp2_with fail
          go_ret
          exact ⟨ret_int' (by rw [hfin.out]; exact hbad.out.symm), hwa.trans hw2⟩
        · have HO := Lib.hid (show ¬ findG (isQ x.question) 0 xs ≤ lastQ xs (ys.take k) by rw [HF.out, ← HLQ.out]; exact ho)
          have hdo : decide ((i : Int) ≤ lq) = false := by simpa using ho
          clear ho
          go_wp2_with fail
          refine HP.out.mono ?_
          rintro e w2 ⟨rfl, hw2⟩
          rw [hf]
          clear hf
          have hwb := hwa.trans hw2
          have f0 := hw2.cell e0 trivial
          have f1 := hw2.cell e1 trivial
          have f2 := hw2.cell e2 trivial
          have f3 := hw2.cell e3 trivial
          obtain ⟨b, off, q', oa, oc, ha, -, c0, c1, c2, c3, c4, c5, hcp, hqs, hos, hqi, -⟩ := (HSQ.out w2 hwb).atQst (k := i) hil
          subst ha
          obtain rfl : q' = q := Option.some.inj (hqi.symm.trans Hi.out)
          obtain ⟨z, hz⟩ : ∃ z, z = answerF q' x := ⟨_, rfl⟩
          have HAF := Lib.hid (fun (wx : World) (h : All w2 wx) => answerFaultR_any q' x oa oc wx hqs hxs (hos.keep RStr.ok h) (HG.out wx (hwb.trans h)))
          rw [← hz] at HAF
          have HZ := Lib.hid hz
          clear hos hqi hwa hw2 e0 e1 e2 e3 HP hz hqs hxs hcp
          by_cases hz0 : z = 0
          · subst hz0
            have HNX := Lib.hid (HA.out.next Hx.out HN.out (by have := HO.out; omega) HZ.out.symm)
            go_wp2_with fail
            go_region_held3 (fun w' => w'.cell? ⟨b, off + i * 6, none⟩ = some (.string q'.key) ∧ w'.cell? ⟨b, off + i * 6 + 1, none⟩ = some (.int .i64 q'.kind) ∧ w'.cell? ⟨b, off + i * 6 + 2, none⟩ = some (.int .i64 q'.most) ∧ w'.cell? ⟨b, off + i * 6 + 3, none⟩ = some (.slice oa q'.opts.length oc) ∧ w'.cell? ⟨b, off + i * 6 + 4, none⟩ = some (.bool q'.needed) ∧ w'.cell? ⟨b, off + i * 6 + 5, none⟩ = some (.bool q'.secret) ∧ w'.cell? ⟨wo.heap.size, 0, none⟩ = some (.string x.question) ∧ w'.cell? ⟨wo.heap.size, 1, none⟩ = some (.int .i64 x.number) ∧ w'.cell? ⟨wo.heap.size, 2, none⟩ = some (.string x.option) ∧ w'.cell? ⟨wo.heap.size, 3, none⟩ = some (.string x.words)) (first | go_keep | exact ⟨by assumption, by assumption, by assumption, by assumption, by assumption, by assumption, by assumption, by assumption, by assumption, by assumption⟩) (first | (go_at_call 50; refine (HAF.out _ (by repeat (first | exact Kept.refl _ _ | refine Kept.then_drew ?_ | refine Kept.then_drewN ?_ _ | refine Kept.then_alloc ?_ _))).mono ?_; rintro e wq ⟨rfl, hq⟩; have hp1 : All w2 wq := Kept.trans (by repeat (first | exact Kept.refl _ _ | refine Kept.then_drew ?_ | refine Kept.then_drewN ?_ _ | refine Kept.then_alloc ?_ _)) hq; have m0 := hp1.cell c0 trivial; have m1 := hp1.cell c1 trivial; have m2 := hp1.cell c2 trivial; have m3 := hp1.cell c3 trivial; have m4 := hp1.cell c4 trivial; have m5 := hp1.cell c5 trivial; have n0 := hp1.cell f0 trivial; have n1 := hp1.cell f1 trivial; have n2 := hp1.cell f2 trivial; have n3 := hp1.cell f3 trivial))
            go_wp2_with fail
            go_roundw
            case rel => exact ⟨k + 1, by omega, by go_num, by rw [lastQ_succ Hx.out, HF.out], HNX.out, hwb.trans hp1⟩
            case measure => simp [intOf]; omega
          · have hz1 : (z == 0) = false := by simpa using hz0
            have hbad := Lib.hid (HA.out.bad Hx.out HN.out (by have := HO.out; omega) HZ.out.symm hz0)
            go_wp2_with fail
            go_region_held3 (fun w' => w'.cell? ⟨b, off + i * 6, none⟩ = some (.string q'.key) ∧ w'.cell? ⟨b, off + i * 6 + 1, none⟩ = some (.int .i64 q'.kind) ∧ w'.cell? ⟨b, off + i * 6 + 2, none⟩ = some (.int .i64 q'.most) ∧ w'.cell? ⟨b, off + i * 6 + 3, none⟩ = some (.slice oa q'.opts.length oc) ∧ w'.cell? ⟨b, off + i * 6 + 4, none⟩ = some (.bool q'.needed) ∧ w'.cell? ⟨b, off + i * 6 + 5, none⟩ = some (.bool q'.secret) ∧ w'.cell? ⟨wo.heap.size, 0, none⟩ = some (.string x.question) ∧ w'.cell? ⟨wo.heap.size, 1, none⟩ = some (.int .i64 x.number) ∧ w'.cell? ⟨wo.heap.size, 2, none⟩ = some (.string x.option) ∧ w'.cell? ⟨wo.heap.size, 3, none⟩ = some (.string x.words)) (first | go_keep | exact ⟨by assumption, by assumption, by assumption, by assumption, by assumption, by assumption, by assumption, by assumption, by assumption, by assumption⟩) (first | (go_at_call 50; refine (HAF.out _ (by repeat (first | exact Kept.refl _ _ | refine Kept.then_drew ?_ | refine Kept.then_drewN ?_ _ | refine Kept.then_alloc ?_ _))).mono ?_; rintro e wq ⟨rfl, hq⟩; have hp1 : All w2 wq := Kept.trans (by repeat (first | exact Kept.refl _ _ | refine Kept.then_drew ?_ | refine Kept.then_drewN ?_ _ | refine Kept.then_alloc ?_ _)) hq; have m0 := hp1.cell c0 trivial; have m1 := hp1.cell c1 trivial; have m2 := hp1.cell c2 trivial; have m3 := hp1.cell c3 trivial; have m4 := hp1.cell c4 trivial; have m5 := hp1.cell c5 trivial; have n0 := hp1.cell f0 trivial; have n1 := hp1.cell f1 trivial; have n2 := hp1.cell f2 trivial; have n3 := hp1.cell f3 trivial))
            go_wp2_with fail
            go_ret
            exact ⟨ret_int' (by rw [hfin.out]; exact hbad.out.symm), hwb.trans hp1⟩
    · have hdk : decide ((k : Int) < (l2 : Int)) = false := by simp; omega
      go_wp2_with fail
      go_ret
      exact ⟨ret_int' (by rw [hfin.out]; exact (HA.out.ok (by have := Hly.out; omega)).symm), hwr⟩

/-- A slice of strings of the call's own. -/
def StrsPost (ss : List ByteArray) (w : World) (e : Ending) (w' : World) : Prop := ∃ v, e = .returned v ∧ Acc RStr 1 9 (fun _ => False) w.heap.size w' v ss ∧ All w w'

set_option maxRecDepth 100000 in
set_option maxHeartbeats 6400000 in
theorem missingQ_any (a : Option Addr) (len cap : Nat) (xs : List Qst) (a2 : Option Addr) (l2 cz : Nat) (ys : List Ans4) (w : World) (hs : Sl RQst 6 (fun _ => True) w a len xs) (hl : len ≤ 1000000) (hy : Sl RAns 4 (fun _ => True) w a2 l2 ys) (hl2 : l2 ≤ 1000000) :
    Calls Tryz.prog 41 #[.slice a len cap, .slice a2 l2 cz] w (StrsPost (missF xs ys) w) := by
  have Hlen := Lib.hid hs.len
  have HH := Lib.hid (fun (wx : World) (h : All w wx) (p : ByteArray) => has_any a2 l2 cz ys p wx (hy.keep RAns.ok h) hl2)
  clear hy
  go_enter Tryz.func41, Tryz.ntmps41
  go_wp2_with fail
  go_loopw [5, 10] (fun v i wr => ∃ k : Nat, k ≤ len ∧ i = .int .i64 k ∧ Acc RStr 1 9 (fun _ => False) w.heap.size wr v (missF (xs.take k) ys) ∧ All w wr) (fun _ i _ => len - (intOf i).toNat)
  case atStart => exact ⟨0, Nat.zero_le _, rfl, Acc.nil _ _ _ _ _ _, Kept.refl _ _⟩
  case round =>
    obtain ⟨k, hk, rfl, hacc, hwr⟩ := hrel
    obtain ⟨wo, rfl⟩ : ∃ wo : World, wo = wr := ⟨_, rfl⟩
    obtain ⟨av, cv, rfl, hcv⟩ := hacc.form
    obtain ⟨ms, hms⟩ : ∃ s, s = missF (xs.take k) ys := ⟨_, rfl⟩
    obtain ⟨m, hm⟩ : ∃ l, l = ms.length := ⟨_, rfl⟩
    have hmk : m ≤ 1000000 := by have h1 := missF_len (xs.take k) ys; have h2 := List.length_take_le k xs; rw [hm, hms]; omega
    have HMS := Lib.hid hms
    have HM := Lib.hid hm
    rw [← hms] at hacc hcv ⊢
    rw [← hm] at hacc hcv ⊢
    clear hms hm
    have hwrs := hwr.size
    by_cases hlt : k < len
    · obtain ⟨b, off, q, oa, oc, ha, -, c0, c1, c2, c3, c4, c5, -, ⟨hz1, -⟩, -, -, htk⟩ := (hs.keep RQst.ok hwr).atQst hlt
      subst ha
      have HT := Lib.hid (missF_succ (l := ys) htk)
      have hwa := hwr.then_alloc (.cells #[.string q.key, .int .i64 q.kind, .int .i64 q.most, .slice oa q.opts.length oc, .bool q.needed, .bool q.secret] 73)
      have hacc1 := hacc.keepAll RStr.ok (Kept.alloc (fun _ => True) wo (.cells #[.string q.key, .int .i64 q.kind, .int .i64 q.most, .slice oa q.opts.length oc, .bool q.needed, .bool q.secret] 73))
      have hblk := heap_at wo (.cells #[.string q.key, .int .i64 q.kind, .int .i64 q.most, .slice oa q.opts.length oc, .bool q.needed, .bool q.secret] 73) _ rfl
      have e0 := cell_at (i := 0) hblk rfl
      have e4 := cell_at (i := 4) hblk rfl
      clear hacc hwr htk
      cases hnd : q.needed with
      | false =>
        have HE := Lib.hid (show missF (xs.take (k + 1)) ys = ms by rw [HT.out, missQ, hnd]; simp [HMS.out])
        rw [hnd] at hacc1 hwa e0 e4 c4
        clear hblk HT HMS
        go_wp2_with fail
        go_roundw
        case rel => exact ⟨k + 1, by omega, by go_num, by rw [HE.out]; exact hacc1, hwa⟩
        case measure => simp [intOf]; omega
      | true =>
        have HHQ := Lib.hid (HH.out _ hwa q.key)
        rw [hnd] at hacc1 hwa e0 e4 c4 hblk HHQ
        cases hany : ys.any (isA q.key) with
        | true =>
          have HE := Lib.hid (show missF (xs.take (k + 1)) ys = ms by rw [HT.out, missQ, hnd, hany]; simp [HMS.out])
          clear hblk HT HMS
          go_wp2_with fail
          refine HHQ.out.mono ?_
          rintro e w2 ⟨rfl, hw2⟩
          rw [hany]
          have hacc2 := hacc1.keepAll RStr.ok hw2
          clear hacc1 HHQ
          go_wp2_with fail
          go_roundw
          case rel => exact ⟨k + 1, by omega, by go_num, by rw [HE.out]; exact hacc2, hwa.trans hw2⟩
          case measure => simp [intOf]; omega
        | false =>
          have HE := Lib.hid (show missF (xs.take (k + 1)) ys = ms ++ [q.key] by rw [HT.out, missQ, hnd, hany]; simp [HMS.out])
          clear hblk HT HMS
          go_wp2_with fail
          refine HHQ.out.mono ?_
          rintro e w2 ⟨rfl, hw2⟩
          rw [hany]
          have hacc2 := hacc1.keepAll RStr.ok hw2
          have e0' := hw2.cell e0 trivial
          have hwb := hwa.trans hw2
          have hwbs := hwb.size
          clear hacc1 HHQ hwa hw2
          go_wp2_with (at_builtin; refine wp_append1 RStr.ok _ rfl _ _ 30 rfl w.heap.size 9 (.string ⟨#[]⟩) 1 16 Tryz.underlying30 (by kernel_rfl) rfl (by decide) (fun _ => False) _ ms rfl (hacc2.keepAll RStr.ok (Kept.alloc _ _ _)) ⟨_, 0, none⟩ 1 [.string q.key] rfl rfl (World.news_of_block (cs := #[.string q.key]) (heap_alloc_new w2 _)) (by simp [Value.oneCell']) q.key ⟨rfl, hz1⟩ (by have := HM.out; omega) (by decide) (by simp; omega) ?_)
          intro p' c' w9 hacc9 hg9 _
          have hk9 : All w w9 := (hwb.then_alloc _).grown hg9 (fun j hj => Or.inl (hacc2.lt j hj).1)
          clear hg9 hacc2
          go_wp2_with fail
          go_roundw
          case rel => exact ⟨k + 1, by omega, by go_num, by rw [HE.out]; exact hacc9, hk9⟩
          case measure => simp [intOf]; omega
    · have hd : decide ((k : Int) < (len : Int)) = false := by simp; omega
      have hxe : xs.take k = xs := List.take_of_length_le (by have := Hlen.out; omega)
      have HF := Lib.hid (show missF xs ys = ms by rw [HMS.out, hxe])
      clear hxe
      go_wp2_with fail
      go_ret
      exact ⟨_, rfl, by rw [HF.out]; exact hacc, hwr⟩

set_option maxRecDepth 100000 in
set_option maxHeartbeats 6400000 in
theorem missingOf_any (a : Option Addr) (len cap : Nat) (xs : List Qst) (a2 : Option Addr) (l2 cz : Nat) (ys : List Ans4) (w : World) (hs : Sl RQst 6 (fun _ => True) w a len xs) (hl : len ≤ 1000000) (hy : Sl RAns 4 (fun _ => True) w a2 l2 ys) (hl2 : l2 ≤ 1000000) :
    Calls Tryz.prog 15 #[.slice a len cap, .slice a2 l2 cz] w (StrsPost (missF xs ys) w) := by
  have Hlen := Lib.hid hs.len
  have HH := Lib.hid (fun (wx : World) (h : All w wx) (p : ByteArray) => answered_any a2 l2 cz ys p wx (hy.keep RAns.ok h) hl2)
  clear hy
  go_enter Tryz.func15, Tryz.ntmps15
  go_wp2_with fail
  go_loopw [5, 10] (fun v i wr => ∃ k : Nat, k ≤ len ∧ i = .int .i64 k ∧ Acc RStr 1 9 (fun _ => False) w.heap.size wr v (missF (xs.take k) ys) ∧ All w wr) (fun _ i _ => len - (intOf i).toNat)
  case atStart => exact ⟨0, Nat.zero_le _, rfl, Acc.nil _ _ _ _ _ _, Kept.refl _ _⟩
  case round =>
    obtain ⟨k, hk, rfl, hacc, hwr⟩ := hrel
    obtain ⟨wo, rfl⟩ : ∃ wo : World, wo = wr := ⟨_, rfl⟩
    obtain ⟨av, cv, rfl, hcv⟩ := hacc.form
    obtain ⟨ms, hms⟩ : ∃ s, s = missF (xs.take k) ys := ⟨_, rfl⟩
    obtain ⟨m, hm⟩ : ∃ l, l = ms.length := ⟨_, rfl⟩
    have hmk : m ≤ 1000000 := by have h1 := missF_len (xs.take k) ys; have h2 := List.length_take_le k xs; rw [hm, hms]; omega
    have HMS := Lib.hid hms
    have HM := Lib.hid hm
    rw [← hms] at hacc hcv ⊢
    rw [← hm] at hacc hcv ⊢
    clear hms hm
    have hwrs := hwr.size
    by_cases hlt : k < len
    · obtain ⟨b, off, q, oa, oc, ha, -, c0, c1, c2, c3, c4, c5, -, ⟨hz1, -⟩, -, -, htk⟩ := (hs.keep RQst.ok hwr).atQst hlt
      subst ha
      have HT := Lib.hid (missF_succ (l := ys) htk)
      have hwa := hwr.then_alloc (.cells #[.string q.key, .int .i64 q.kind, .int .i64 q.most, .slice oa q.opts.length oc, .bool q.needed, .bool q.secret] 73)
      have hacc1 := hacc.keepAll RStr.ok (Kept.alloc (fun _ => True) wo (.cells #[.string q.key, .int .i64 q.kind, .int .i64 q.most, .slice oa q.opts.length oc, .bool q.needed, .bool q.secret] 73))
      have hblk := heap_at wo (.cells #[.string q.key, .int .i64 q.kind, .int .i64 q.most, .slice oa q.opts.length oc, .bool q.needed, .bool q.secret] 73) _ rfl
      have e0 := cell_at (i := 0) hblk rfl
      have e4 := cell_at (i := 4) hblk rfl
      clear hacc hwr htk
      cases hnd : q.needed with
      | false =>
        have HE := Lib.hid (show missF (xs.take (k + 1)) ys = ms by rw [HT.out, missQ, hnd]; simp [HMS.out])
        rw [hnd] at hacc1 hwa e0 e4 c4
        clear hblk HT HMS
        go_wp2_with fail
        go_roundw
        case rel => exact ⟨k + 1, by omega, by go_num, by rw [HE.out]; exact hacc1, hwa⟩
        case measure => simp [intOf]; omega
      | true =>
        have HHQ := Lib.hid (HH.out _ hwa q.key)
        rw [hnd] at hacc1 hwa e0 e4 c4 hblk HHQ
        cases hany : ys.any (isA q.key) with
        | true =>
          have HE := Lib.hid (show missF (xs.take (k + 1)) ys = ms by rw [HT.out, missQ, hnd, hany]; simp [HMS.out])
          clear hblk HT HMS
          go_wp2_with fail
          refine HHQ.out.mono ?_
          rintro e w2 ⟨rfl, hw2⟩
          rw [hany]
          have hacc2 := hacc1.keepAll RStr.ok hw2
          clear hacc1 HHQ
          go_wp2_with fail
          go_roundw
          case rel => exact ⟨k + 1, by omega, by go_num, by rw [HE.out]; exact hacc2, hwa.trans hw2⟩
          case measure => simp [intOf]; omega
        | false =>
          have HE := Lib.hid (show missF (xs.take (k + 1)) ys = ms ++ [q.key] by rw [HT.out, missQ, hnd, hany]; simp [HMS.out])
          clear hblk HT HMS
          go_wp2_with fail
          refine HHQ.out.mono ?_
          rintro e w2 ⟨rfl, hw2⟩
          rw [hany]
          have hacc2 := hacc1.keepAll RStr.ok hw2
          have e0' := hw2.cell e0 trivial
          have hwb := hwa.trans hw2
          have hwbs := hwb.size
          clear hacc1 HHQ hwa hw2
          go_wp2_with (at_builtin; refine wp_append1 RStr.ok _ rfl _ _ 30 rfl w.heap.size 9 (.string ⟨#[]⟩) 1 16 Tryz.underlying30 (by kernel_rfl) rfl (by decide) (fun _ => False) _ ms rfl (hacc2.keepAll RStr.ok (Kept.alloc _ _ _)) ⟨_, 0, none⟩ 1 [.string q.key] rfl rfl (World.news_of_block (cs := #[.string q.key]) (heap_alloc_new w2 _)) (by simp [Value.oneCell']) q.key ⟨rfl, hz1⟩ (by have := HM.out; omega) (by decide) (by simp; omega) ?_)
          intro p' c' w9 hacc9 hg9 _
          have hk9 : All w w9 := (hwb.then_alloc _).grown hg9 (fun j hj => Or.inl (hacc2.lt j hj).1)
          clear hg9 hacc2
          go_wp2_with fail
          go_roundw
          case rel => exact ⟨k + 1, by omega, by go_num, by rw [HE.out]; exact hacc9, hk9⟩
          case measure => simp [intOf]; omega
    · have hd : decide ((k : Int) < (len : Int)) = false := by simp; omega
      have hxe : xs.take k = xs := List.take_of_length_le (by have := Hlen.out; omega)
      have HF := Lib.hid (show missF xs ys = ms by rw [HMS.out, hxe])
      clear hxe
      go_wp2_with fail
      go_ret
      exact ⟨_, rfl, by rw [HF.out]; exact hacc, hwr⟩

end Go.Proofs.YtdgpminhkiilfaaGreatDoor
