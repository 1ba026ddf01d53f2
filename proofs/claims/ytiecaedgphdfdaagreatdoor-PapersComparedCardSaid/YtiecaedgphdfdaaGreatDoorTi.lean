/- Order. -/
import Derived.Test.YtiecaedgphdfdaaGreatDoorTc
import Derived.Test.YtiecaedgphdfdaaGreatDoorTg
import Derived.Test.YtiecaedgphdfdaaGreatDoorRc
namespace Go.Proofs.YtiecaedgphdfdaaGreatDoor
open Go.RowKit

/-- What Order returns first. -/
noncomputable def ordV (cs : List Int) (fl : Int) (xs : List Mark3) (a b : ByteArray) : Int := if ordE cs fl xs a b = 0 then ordR cs (srtI (scs xs a)) (srtI (scs xs b)) a b else 0
section
variable {cs : List Int} {fl : Int} {xs : List Mark3} {a b : ByteArray}
theorem ordE_rules (h : rulF cs fl ≠ 0) : ordE cs fl xs a b = rulF cs fl := if_pos h
theorem ordE_marks (h : rulF cs fl = 0) (h2 : marksF xs ≠ 0) : ordE cs fl xs a b = marksF xs := by rw [ordE, if_neg (by simp [h]), if_pos h2]
theorem ordE_key1 (h : rulF cs fl = 0) (h2 : marksF xs = 0) (h3 : isKeyB a = false) : ordE cs fl xs a b = 5 := by rw [ordE, if_neg (by simp [h]), if_neg (by simp [h2]), if_pos h3]
theorem ordE_key2 (h : rulF cs fl = 0) (h2 : marksF xs = 0) (h3 : isKeyB a = true) (h4 : isKeyB b = false) : ordE cs fl xs a b = 5 := by rw [ordE, if_neg (by simp [h]), if_neg (by simp [h2]), if_neg (by simp [h3]), if_pos h4]
theorem ordE_ok (h : rulF cs fl = 0) (h2 : marksF xs = 0) (h3 : isKeyB a = true) (h4 : isKeyB b = true) : ordE cs fl xs a b = 0 := by rw [ordE, if_neg (by simp [h]), if_neg (by simp [h2]), if_neg (by simp [h3]), if_neg (by simp [h4])]
theorem ordV_bad (h : ordE cs fl xs a b ≠ 0) : ordV cs fl xs a b = 0 := if_neg h
theorem ordV_ok (h : ordE cs fl xs a b = 0) : ordV cs fl xs a b = ordR cs (srtI (scs xs a)) (srtI (scs xs b)) a b := if_pos h
end
theorem ret_two {a b a' b' : Int} (h : a = a') (h2 : b = b') : Ending.returned (.tuple #[.int .i64 a, .int .i64 b]) = .returned (.tuple #[.int .i64 a', .int .i64 b']) := by rw [h, h2]

set_option maxRecDepth 100000 in
set_option maxHeartbeats 6400000 in
theorem order_any (a : Option Addr) (len cap : Nat) (cs : List Int) (fl : Int) (am : Option Addr) (lm cm : Nat) (xs : List Mark3) (p q : ByteArray) (w : World)
    (hs : Sl RInt 1 (fun _ => True) w a len cs) (hl : len ≤ 1000000) (hcap : len ≤ cap) (hm : Sl RMark 3 (fun _ => True) w am lm xs) (hml : lm ≤ 1000000) (hp : p.size ≤ 1000000) (hq : q.size ≤ 1000000) :
    Calls Tryz.prog 24 #[.agg #[.slice a len cap, .int .i64 fl], .slice am lm cm, .string p, .string q] w fun e w' => e = .returned (.tuple #[.int .i64 (ordV cs fl xs p q), .int .i64 (ordE cs fl xs p q)]) ∧ All w w' := by
  have hk1 : All w (w.alloc (.cells #[.slice a len cap, .int .i64 fl] 52)) := Kept.alloc _ _ _
  have hrb := heap_at w (.cells #[.slice a len cap, .int .i64 fl] 52) _ rfl
  have r0 := cell_at (i := 0) hrb rfl
  have r1 := cell_at (i := 1) hrb rfl
  have HS := Lib.hid (fun (wx : World) (hk : All w wx) => hs.keep RInt.ok hk)
  have HM := Lib.hid (fun (wx : World) (hk : All w wx) => hm.keep RMark.ok hk)
  have Hlm := Lib.hid hm.len
  clear hrb hs hm
  by_cases h1 : rulF cs fl = 0
  · by_cases h2 : marksF xs = 0
    · cases h3 : isKeyB p with
      | false =>
        have he := ordE_key1 (b := q) h1 h2 h3
        have HE := Lib.hid he
        have HV := Lib.hid (ordV_bad (by rw [he]; decide))
        have H2 := Lib.hid h2
        clear he h2
        go_enter Tryz.func24, Tryz.ntmps24
        go_wp2_with fail
        generalize w.alloc (.cells #[.slice a len cap, .int .i64 fl] 52) = w1 at *
        refine (rulesFault_any a len cap cs fl _ (HS.out _ hk1) hl hcap).mono ?_
        rintro e w2 ⟨rfl, hw2⟩
        have hk2 := hk1.trans hw2
        have q0 := hw2.cell r0 trivial
        have q1 := hw2.cell r1 trivial
        rw [h1]
        go_wp2_with fail
        refine (checkMarks_any am lm cm xs _ (HM.out _ hk2) hml).mono ?_
        rintro e w3 ⟨rfl, hw3⟩
        have hk3 := hk2.trans hw3
        have s0 := hw3.cell q0 trivial
        have s1 := hw3.cell q1 trivial
        rw [H2.out]
        go_wp2_with fail
        refine (isKey_any p _ (by omega)).mono ?_
        rintro e w' ⟨rfl, rfl⟩
        rw [h3]
        go_wp2_with fail
        go_ret2
        exact ⟨ret_two HV.out.symm HE.out.symm, hk3⟩
      | true =>
        cases h4 : isKeyB q with
        | false =>
          have he := ordE_key2 h1 h2 h3 h4
          have HE := Lib.hid he
          have HV := Lib.hid (ordV_bad (by rw [he]; decide))
          have H2 := Lib.hid h2
          clear he h2
          go_enter Tryz.func24, Tryz.ntmps24
          go_wp2_with fail
          generalize w.alloc (.cells #[.slice a len cap, .int .i64 fl] 52) = w1 at *
          refine (rulesFault_any a len cap cs fl _ (HS.out _ hk1) hl hcap).mono ?_
          rintro e w2 ⟨rfl, hw2⟩
          have hk2 := hk1.trans hw2
          have q0 := hw2.cell r0 trivial
          have q1 := hw2.cell r1 trivial
          rw [h1]
          go_wp2_with fail
          refine (checkMarks_any am lm cm xs _ (HM.out _ hk2) hml).mono ?_
          rintro e w3 ⟨rfl, hw3⟩
          have hk3 := hk2.trans hw3
          have s0 := hw3.cell q0 trivial
          have s1 := hw3.cell q1 trivial
          rw [H2.out]
          go_wp2_with fail
          refine (isKey_any p _ (by omega)).mono ?_
          rintro e w' ⟨rfl, rfl⟩
          rw [h3]
          go_wp2_with fail
          refine (isKey_any q _ (by omega)).mono ?_
          rintro e w' ⟨rfl, rfl⟩
          rw [h4]
          go_wp2_with fail
          go_ret2
          exact ⟨ret_two HV.out.symm HE.out.symm, hk3⟩
        | true =>
          have he := ordE_ok h1 h2 h3 h4
          have HE := Lib.hid he
          have HV := Lib.hid (ordV_ok he)
          have H2 := Lib.hid h2
          have hx := marksF_scores h2
          have HX := Lib.hid (fun r => show (∀ z ∈ srtI (scs xs r), 0 ≤ z ∧ z ≤ 10) ∧ (srtI (scs xs r)).length ≤ 3000 from ⟨fun z hz => by obtain ⟨m, hm, rfl⟩ := scs_mem (srtI_mem.1 hz); exact hx.2 m hm, by have := scs_len xs r; rw [srtI_len]; omega⟩)
          have hlm3 : lm ≤ 3000 := by have := Hlm.out; omega
          clear he h2 hx
          go_enter Tryz.func24, Tryz.ntmps24
          go_wp2_with fail
          generalize w.alloc (.cells #[.slice a len cap, .int .i64 fl] 52) = w1 at *
          refine (rulesFault_any a len cap cs fl _ (HS.out _ hk1) hl hcap).mono ?_
          rintro e w2 ⟨rfl, hw2⟩
          have hk2 := hk1.trans hw2
          have q0 := hw2.cell r0 trivial
          have q1 := hw2.cell r1 trivial
          rw [h1]
          go_wp2_with fail
          refine (checkMarks_any am lm cm xs _ (HM.out _ hk2) hml).mono ?_
          rintro e w3 ⟨rfl, hw3⟩
          have hk3 := hk2.trans hw3
          have s0 := hw3.cell q0 trivial
          have s1 := hw3.cell q1 trivial
          rw [H2.out]
          go_wp2_with fail
          refine (isKey_any p _ (by omega)).mono ?_
          rintro e w' ⟨rfl, rfl⟩
          rw [h3]
          go_wp2_with fail
          refine (isKey_any q _ (by omega)).mono ?_
          rintro e w' ⟨rfl, rfl⟩
          rw [h4]
          go_wp2_with fail
          go_region_held3 (fun w' => w'.cell? ⟨w.heap.size, 0, none⟩ = some (.slice a len cap) ∧ w'.cell? ⟨w.heap.size, 1, none⟩ = some (.int .i64 fl)) (first | go_keep | exact ⟨by assumption, by assumption⟩) (first
            | (go_at_call 74; refine (scoresOf_any am lm cm xs _ (HM.out _ (Kept.trans hk3 (by repeat (first | exact Kept.refl _ _ | refine Kept.then_drew ?_ | refine Kept.then_drewN ?_ _)))) hlm3).mono ?_; rintro e w4 ⟨mb, nn, vals, rfl, hsc, hw4⟩; have hk4 : All w w4 := Kept.trans (Kept.trans hk3 (by repeat (first | exact Kept.refl _ _ | refine Kept.then_drew ?_ | refine Kept.then_drewN ?_ _))) hw4; have t0 := hw4.cell (Kept.cell (F := fun _ => True) (w := w3) (by repeat (first | exact Kept.refl _ _ | refine Kept.then_drew ?_ | refine Kept.then_drewN ?_ _ | refine Kept.then_alloc ?_ _)) s0 trivial) trivial; have t1 := hw4.cell (Kept.cell (F := fun _ => True) (w := w3) (by repeat (first | exact Kept.refl _ _ | refine Kept.then_drew ?_ | refine Kept.then_drewN ?_ _ | refine Kept.then_alloc ?_ _)) s1 trivial) trivial)
            | (go_at_call 73; refine (compare_any a len cap cs fl p q _ (HS.out _ (Kept.trans hk4 (by repeat (first | exact Kept.refl _ _ | refine Kept.then_drew ?_ | refine Kept.then_drewN ?_ _)))) hl (hsc.keep (by repeat (first | exact Kept.refl _ _ | refine Kept.then_drew ?_ | refine Kept.then_drewN ?_ _))) hp hq HX.out).mono ?_; rintro e w5 ⟨rfl, hw5⟩; have hk5 : All w w5 := Kept.trans (Kept.trans hk4 (by repeat (first | exact Kept.refl _ _ | refine Kept.then_drew ?_ | refine Kept.then_drewN ?_ _))) hw5; have u0 := hw5.cell (Kept.cell (F := fun _ => True) (w := w4) (by repeat (first | exact Kept.refl _ _ | refine Kept.then_drew ?_ | refine Kept.then_drewN ?_ _)) t0 trivial) trivial; have u1 := hw5.cell (Kept.cell (F := fun _ => True) (w := w4) (by repeat (first | exact Kept.refl _ _ | refine Kept.then_drew ?_ | refine Kept.then_drewN ?_ _)) t1 trivial) trivial))
          all_goals
            go_wp2_with fail
            go_ret2
            exact ⟨ret_two HV.out.symm HE.out.symm, by repeat (first | exact hk5 | refine Kept.then_drew ?_ | refine Kept.then_drewN ?_ _)⟩
    · obtain ⟨er, her⟩ : ∃ er, er = marksF xs := ⟨_, rfl⟩
      have he := ordE_marks (a := p) (b := q) h1 h2
      rw [← her] at he
      have HE := Lib.hid he
      have HV := Lib.hid (ordV_bad (cs := cs) (fl := fl) (xs := xs) (a := p) (b := q) (by rw [he, her]; exact h2))
      have hne : (er != 0) = true := by rw [her]; simpa using h2
      have HER := Lib.hid her
      clear he h2 her
      go_enter Tryz.func24, Tryz.ntmps24
      go_wp2_with fail
      generalize w.alloc (.cells #[.slice a len cap, .int .i64 fl] 52) = w1 at *
      refine (rulesFault_any a len cap cs fl _ (HS.out _ hk1) hl hcap).mono ?_
      rintro e w2 ⟨rfl, hw2⟩
      have hk2 := hk1.trans hw2
      have q0 := hw2.cell r0 trivial
      have q1 := hw2.cell r1 trivial
      rw [h1]
      go_wp2_with fail
      refine (checkMarks_any am lm cm xs _ (HM.out _ hk2) hml).mono ?_
      rintro e w3 ⟨rfl, hw3⟩
      have hk3 := hk2.trans hw3
      have s0 := hw3.cell q0 trivial
      have s1 := hw3.cell q1 trivial
      rw [← HER.out]
      go_wp2_with fail
      go_ret2
      exact ⟨ret_two HV.out.symm HE.out.symm, hk3⟩
  · obtain ⟨er, her⟩ : ∃ er, er = rulF cs fl := ⟨_, rfl⟩
    have he := ordE_rules (xs := xs) (a := p) (b := q) h1
    rw [← her] at he
    have HE := Lib.hid he
    have HV := Lib.hid (ordV_bad (cs := cs) (fl := fl) (xs := xs) (a := p) (b := q) (by rw [he, her]; exact h1))
    have hne : (er != 0) = true := by rw [her]; simpa using h1
    have HER := Lib.hid her
    clear he h1 her
    go_enter Tryz.func24, Tryz.ntmps24
    go_wp2_with fail
    generalize w.alloc (.cells #[.slice a len cap, .int .i64 fl] 52) = w1 at *
    refine (rulesFault_any a len cap cs fl _ (HS.out _ hk1) hl hcap).mono ?_
    rintro e w2 ⟨rfl, hw2⟩
    have hk2 := hk1.trans hw2
    have q0 := hw2.cell r0 trivial
    have q1 := hw2.cell r1 trivial
    rw [← HER.out]
    go_wp2_with fail
    go_ret2
    exact ⟨ret_two HV.out.symm HE.out.symm, hk2⟩
end Go.Proofs.YtiecaedgphdfdaaGreatDoor
