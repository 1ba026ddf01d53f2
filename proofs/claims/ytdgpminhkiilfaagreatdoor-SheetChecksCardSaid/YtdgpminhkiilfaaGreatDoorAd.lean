/- The error of an answer to a question: used, answerFault, the reference's answerFault. -/
import Derived.Test.YtdgpminhkiilfaaGreatDoorAc
import Derived.Test.YtdgpminhkiilfaaGreatDoorDh
import Derived.Deep.RegionHeld3
namespace Go.Proofs.YtdgpminhkiilfaaGreatDoor
open Go.RowKit

/-- An answer with what its kind uses alone. -/
def usedA (kind : Int) (a : Ans4) : Ans4 := if kind = 1 then ⟨a.question, a.number, ⟨#[]⟩, ⟨#[]⟩⟩ else if kind = 2 then ⟨a.question, 0, a.option, ⟨#[]⟩⟩ else ⟨a.question, 0, ⟨#[]⟩, a.words⟩

set_option maxRecDepth 100000 in
theorem used_any (kind : Int) (a : Ans4) (w : World) :
    Calls Tryz.prog 123 #[.int .i64 kind, ansVal a] w fun e w' => e = .returned (ansVal (usedA kind a)) ∧ All w w' := by
  obtain ⟨qq, num, opt, wds⟩ := a
  by_cases h1 : kind = 1
  · subst h1
    go_enter Tryz.func123, Tryz.ntmps123
    go_wp2_with fail
    have hb0 := heap_old (.cells #[.string qq, .int .i64 num, .string ⟨#[]⟩, .string ⟨#[]⟩] 78) (heap_at (w.alloc (.cells #[.string qq, .int .i64 num, .string opt, .string wds] 78)) (.cells #[.string qq, .int .i64 num, .string ⟨#[]⟩, .string ⟨#[]⟩] 78) (w.heap.size + 1) (by simp))
    have q0 := cell_at (i := 0) hb0 rfl
    have q1 := cell_at (i := 1) hb0 rfl
    have q2 := cell_at (i := 2) hb0 rfl
    have q3 := cell_at (i := 3) hb0 rfl
    clear hb0
    refine bodyPost_ret (v := .agg #[.string qq, .int .i64 num, .string ⟨#[]⟩, .string ⟨#[]⟩]) ?_ rfl ⟨rfl, ((Kept.alloc _ _ _).then_alloc _).then_alloc _⟩
    simp [results, Tryz.results123, go_sem, q0, q1, q2, q3]
  by_cases h2 : kind = 2
  · subst h2
    go_enter Tryz.func123, Tryz.ntmps123
    go_wp2_with fail
    have hb0 := heap_old (.cells #[.string qq, .int .i64 0, .string opt, .string ⟨#[]⟩] 78) (heap_at (w.alloc (.cells #[.string qq, .int .i64 num, .string opt, .string wds] 78)) (.cells #[.string qq, .int .i64 0, .string opt, .string ⟨#[]⟩] 78) (w.heap.size + 1) (by simp))
    have q0 := cell_at (i := 0) hb0 rfl
    have q1 := cell_at (i := 1) hb0 rfl
    have q2 := cell_at (i := 2) hb0 rfl
    have q3 := cell_at (i := 3) hb0 rfl
    clear hb0
    refine bodyPost_ret (v := .agg #[.string qq, .int .i64 0, .string opt, .string ⟨#[]⟩]) ?_ rfl ⟨rfl, ((Kept.alloc _ _ _).then_alloc _).then_alloc _⟩
    simp [results, Tryz.results123, go_sem, q0, q1, q2, q3]
  have e1 : (kind == 1) = false := by simpa using h1
  have e2 : (kind == 2) = false := by simpa using h2
  have hfin := Lib.hid (show usedA kind ⟨qq, num, opt, wds⟩ = ⟨qq, 0, ⟨#[]⟩, wds⟩ by rw [usedA, if_neg h1, if_neg h2])
  go_enter Tryz.func123, Tryz.ntmps123
  go_wp2_with fail
  have hb0 := heap_old (.cells #[.string qq, .int .i64 0, .string ⟨#[]⟩, .string wds] 78) (heap_at (w.alloc (.cells #[.string qq, .int .i64 num, .string opt, .string wds] 78)) (.cells #[.string qq, .int .i64 0, .string ⟨#[]⟩, .string wds] 78) (w.heap.size + 1) (by simp))
  have q0 := cell_at (i := 0) hb0 rfl
  have q1 := cell_at (i := 1) hb0 rfl
  have q2 := cell_at (i := 2) hb0 rfl
  have q3 := cell_at (i := 3) hb0 rfl
  clear hb0
  refine bodyPost_ret (v := .agg #[.string qq, .int .i64 0, .string ⟨#[]⟩, .string wds]) ?_ rfl ⟨by rw [hfin.out], ((Kept.alloc _ _ _).then_alloc _).then_alloc _⟩
  simp [results, Tryz.results123, go_sem, q0, q1, q2, q3]

theorem nempty {s : ByteArray} (h : ¬ s.size = 0) : (s.toList == []) = false ∧ (([] : List UInt8) == s.toList) = false := by
  have h1 := toList_ne h
  exact ⟨by simpa using h1, by simpa using h1⟩
theorem empty_of_size {s : ByteArray} (h : s.size = 0) : s = ⟨#[]⟩ := ByteArray.ext (Array.eq_empty_of_size_eq_zero h)
section
variable {q : Qst} {a : Ans4}
theorem answerF_spare (h : ¬ spareOk q.kind a) : answerF q a = 3 := by rw [answerF, if_pos h]
theorem answerF_1 (hk : q.kind = 1) (h : spareOk q.kind a) : answerF q a = if a.number < 0 ∨ q.most < a.number then 1 else 0 := by
  rw [answerF, if_neg (fun hh => hh h)]; simp [hk]
theorem answerF_2 (hk : q.kind = 2) (h : spareOk q.kind a) : answerF q a = if memB a.option q.opts = false then 8 else 0 := by
  rw [answerF, if_neg (fun hh => hh h)]; simp [hk]
theorem answerF_3 (hk : q.kind = 3) (h : spareOk q.kind a) : answerF q a = if a.words.size = 0 ∨ isTextB a.words = false then 3 else if q.most < (a.words.size : Int) then 2 else 0 := by
  rw [answerF, if_neg (fun hh => hh h)]; simp [hk]
theorem answerF_o (h1 : q.kind ≠ 1) (h2 : q.kind ≠ 2) (h3 : q.kind ≠ 3) (h : spareOk q.kind a) : answerF q a = 0 := by
  rw [answerF, if_neg (fun hh => hh h)]; simp [h1, h2, h3]
end

set_option maxRecDepth 100000 in
set_option maxHeartbeats 6400000 in
theorem answerFault_any (q : Qst) (x : Ans4) (oa : Option Addr) (oc : Nat) (w : World) (hsm : QstSmall q) (hxm : AnsSmall x) (hs : Sl RStr 1 (fun _ => True) w oa q.opts.length q.opts) (hg : Tabs w) :
    Calls Tryz.prog 85 #[.agg #[.string q.key, .int .i64 q.kind, .int .i64 q.most, .slice oa q.opts.length oc, .bool q.needed, .bool q.secret], ansVal x] w fun e w' => e = .returned (.int .i64 (answerF q x)) ∧ All w w' := by
  obtain ⟨key, kind, most, opts, needed, secret⟩ := q
  obtain ⟨qq, num, opt, wds⟩ := x
  obtain ⟨-, hsm⟩ := hsm
  obtain ⟨-, hx2, hx3⟩ := hxm
  dsimp only at *
  obtain ⟨m, hm⟩ : ∃ m, m = opts.length := ⟨_, rfl⟩
  have HM := Lib.hid hm
  rw [← hm] at hs hsm ⊢
  clear hm
  have hk2 : All w ((w.alloc (.cells #[.string key, .int .i64 kind, .int .i64 most, .slice oa m oc, .bool needed, .bool secret] 73)).alloc (.cells #[.string qq, .int .i64 num, .string opt, .string wds] 78)) := (Kept.alloc _ _ _).then_alloc _
  have b1 := heap_old (.cells #[.string qq, .int .i64 num, .string opt, .string wds] 78) (heap_at w (.cells #[.string key, .int .i64 kind, .int .i64 most, .slice oa m oc, .bool needed, .bool secret] 73) _ rfl)
  have b2 := heap_at (w.alloc (.cells #[.string key, .int .i64 kind, .int .i64 most, .slice oa m oc, .bool needed, .bool secret] 73)) (.cells #[.string qq, .int .i64 num, .string opt, .string wds] 78) (w.heap.size + 1) (by simp)
  have HS := Lib.hid (fun (wx : World) (h : All ((w.alloc (.cells #[.string key, .int .i64 kind, .int .i64 most, .slice oa m oc, .bool needed, .bool secret] 73)).alloc (.cells #[.string qq, .int .i64 num, .string opt, .string wds] 78)) wx) => contains_any oa m oc opts opt wx ((hs.keep RStr.ok hk2).keep RStr.ok h) (by omega))
  have HG := Lib.hid (fun (wx : World) (h : All ((w.alloc (.cells #[.string key, .int .i64 kind, .int .i64 most, .slice oa m oc, .bool needed, .bool secret] 73)).alloc (.cells #[.string qq, .int .i64 num, .string opt, .string wds] 78)) wx) => isText_any wds wx hx3 ((hg.keep hk2).keep h))
  clear hs hg
  have e0 := cell_at (i := 0) b1 rfl
  have e1 := cell_at (i := 1) b1 rfl
  have e2 := cell_at (i := 2) b1 rfl
  have e3 := cell_at (i := 3) b1 rfl
  have e4 := cell_at (i := 4) b1 rfl
  have e5 := cell_at (i := 5) b1 rfl
  have d0 := cell_at (i := 0) b2 rfl
  have d1 := cell_at (i := 1) b2 rfl
  have d2 := cell_at (i := 2) b2 rfl
  have d3 := cell_at (i := 3) b2 rfl
  clear b1 b2
  go_enter Tryz.func85, Tryz.ntmps85
  by_cases hn1 : kind = 1
  · subst hn1
    have HU := Lib.hid (fun (wx : World) => (show Calls Tryz.prog 123 #[.int .i64 1, .agg #[.string qq, .int .i64 num, .string opt, .string wds]] wx fun e w' => e = .returned (.agg #[.string qq, .int .i64 num, .string ⟨#[]⟩, .string ⟨#[]⟩]) ∧ All wx w' from used_any 1 ⟨qq, num, opt, wds⟩ wx))
    by_cases hA : opt.size = 0
    · obtain rfl : opt = ⟨#[]⟩ := empty_of_size hA
      by_cases hB : wds.size = 0
      · obtain rfl : wds = ⟨#[]⟩ := empty_of_size hB
        by_cases hN : num < 0 ∨ most < num
        · have hd : decide (num < 0 ∨ most < num) = true := by simp; omega
          have hfin := Lib.hid (show answerF ⟨key, 1, most, opts, needed, secret⟩ ⟨qq, num, ⟨#[]⟩, ⟨#[]⟩⟩ = 1 from (answerF_1 rfl (by unfold spareOk; rw [if_pos rfl]; exact ⟨rfl, rfl⟩)).trans (if_pos hN))
          clear hN
          go_wp2_with fail
          go_region_held3 (fun w' => w'.cell? ⟨w.heap.size, 1, none⟩ = some (.int .i64 1) ∧ w'.cell? ⟨w.heap.size + 1, 0, none⟩ = some (.string qq) ∧ w'.cell? ⟨w.heap.size + 1, 1, none⟩ = some (.int .i64 num) ∧ w'.cell? ⟨w.heap.size + 1, 2, none⟩ = some (.string ⟨#[]⟩) ∧ w'.cell? ⟨w.heap.size + 1, 3, none⟩ = some (.string ⟨#[]⟩)) (first | go_keep | exact ⟨by assumption, by assumption, by assumption, by assumption, by assumption⟩) (first | (go_at_call 123; refine (HU.out _).mono ?_; rintro e q ⟨rfl, hq⟩; have hp1 : All ((w.alloc (.cells #[.string key, .int .i64 1, .int .i64 most, .slice oa m oc, .bool needed, .bool secret] 73)).alloc (.cells #[.string qq, .int .i64 num, .string ⟨#[]⟩, .string ⟨#[]⟩] 78)) q := Kept.trans (by repeat (first | exact Kept.refl _ _ | refine Kept.then_drew ?_ | refine Kept.then_drewN ?_ _ | refine Kept.then_alloc ?_ _)) hq; have a1 := hp1.cell e1 trivial; have a2 := hp1.cell e2 trivial; have a3 := hp1.cell e3 trivial; have c0 := hp1.cell d0 trivial; have c1 := hp1.cell d1 trivial; have c2 := hp1.cell d2 trivial; have c3 := hp1.cell d3 trivial))
          go_wp2_with fail
          refine (outside_any num 0 most _).mono ?_
          rintro e wq ⟨rfl, hh⟩
          subst hh
          rw [hd]
          go_wp2_with fail
          go_ret
          exact ⟨ret_int' hfin.out.symm, (hk2.trans hp1)⟩
        · have hd : decide (num < 0 ∨ most < num) = false := by simp; omega
          have hfin := Lib.hid (show answerF ⟨key, 1, most, opts, needed, secret⟩ ⟨qq, num, ⟨#[]⟩, ⟨#[]⟩⟩ = 0 from (answerF_1 rfl (by unfold spareOk; rw [if_pos rfl]; exact ⟨rfl, rfl⟩)).trans (if_neg hN))
          clear hN
          go_wp2_with fail
          go_region_held3 (fun w' => w'.cell? ⟨w.heap.size, 1, none⟩ = some (.int .i64 1) ∧ w'.cell? ⟨w.heap.size + 1, 0, none⟩ = some (.string qq) ∧ w'.cell? ⟨w.heap.size + 1, 1, none⟩ = some (.int .i64 num) ∧ w'.cell? ⟨w.heap.size + 1, 2, none⟩ = some (.string ⟨#[]⟩) ∧ w'.cell? ⟨w.heap.size + 1, 3, none⟩ = some (.string ⟨#[]⟩)) (first | go_keep | exact ⟨by assumption, by assumption, by assumption, by assumption, by assumption⟩) (first | (go_at_call 123; refine (HU.out _).mono ?_; rintro e q ⟨rfl, hq⟩; have hp1 : All ((w.alloc (.cells #[.string key, .int .i64 1, .int .i64 most, .slice oa m oc, .bool needed, .bool secret] 73)).alloc (.cells #[.string qq, .int .i64 num, .string ⟨#[]⟩, .string ⟨#[]⟩] 78)) q := Kept.trans (by repeat (first | exact Kept.refl _ _ | refine Kept.then_drew ?_ | refine Kept.then_drewN ?_ _ | refine Kept.then_alloc ?_ _)) hq; have a1 := hp1.cell e1 trivial; have a2 := hp1.cell e2 trivial; have a3 := hp1.cell e3 trivial; have c0 := hp1.cell d0 trivial; have c1 := hp1.cell d1 trivial; have c2 := hp1.cell d2 trivial; have c3 := hp1.cell d3 trivial))
          go_wp2_with fail
          refine (outside_any num 0 most _).mono ?_
          rintro e wq ⟨rfl, hh⟩
          subst hh
          rw [hd]
          go_wp2_with fail
          go_ret
          exact ⟨ret_int' hfin.out.symm, (hk2.trans hp1)⟩
      · obtain ⟨z1, z2⟩ := nempty hB (s := wds)
        have hfin := Lib.hid (show answerF ⟨key, 1, most, opts, needed, secret⟩ ⟨qq, num, ⟨#[]⟩, wds⟩ = 3 from answerF_spare (by unfold spareOk; rw [if_pos rfl]; exact fun h => hB h.2))
        go_wp2_with fail
        go_region_held3 (fun w' => w'.cell? ⟨w.heap.size, 1, none⟩ = some (.int .i64 1) ∧ w'.cell? ⟨w.heap.size + 1, 0, none⟩ = some (.string qq) ∧ w'.cell? ⟨w.heap.size + 1, 1, none⟩ = some (.int .i64 num) ∧ w'.cell? ⟨w.heap.size + 1, 2, none⟩ = some (.string ⟨#[]⟩) ∧ w'.cell? ⟨w.heap.size + 1, 3, none⟩ = some (.string wds)) (first | go_keep | exact ⟨by assumption, by assumption, by assumption, by assumption, by assumption⟩) (first | (go_at_call 123; refine (HU.out _).mono ?_; rintro e q ⟨rfl, hq⟩; have hp1 : All ((w.alloc (.cells #[.string key, .int .i64 1, .int .i64 most, .slice oa m oc, .bool needed, .bool secret] 73)).alloc (.cells #[.string qq, .int .i64 num, .string ⟨#[]⟩, .string wds] 78)) q := Kept.trans (by repeat (first | exact Kept.refl _ _ | refine Kept.then_drew ?_ | refine Kept.then_drewN ?_ _ | refine Kept.then_alloc ?_ _)) hq; have a1 := hp1.cell e1 trivial; have a2 := hp1.cell e2 trivial; have a3 := hp1.cell e3 trivial; have c0 := hp1.cell d0 trivial; have c1 := hp1.cell d1 trivial; have c2 := hp1.cell d2 trivial; have c3 := hp1.cell d3 trivial))
        go_wp2_with fail
        go_ret
        exact ⟨ret_int' hfin.out.symm, (hk2.trans hp1)⟩
    · obtain ⟨z1, z2⟩ := nempty hA (s := opt)
      have hfin := Lib.hid (show answerF ⟨key, 1, most, opts, needed, secret⟩ ⟨qq, num, opt, wds⟩ = 3 from answerF_spare (by unfold spareOk; rw [if_pos rfl]; exact fun h => hA h.1))
      go_wp2_with fail
      go_region_held3 (fun w' => w'.cell? ⟨w.heap.size, 1, none⟩ = some (.int .i64 1) ∧ w'.cell? ⟨w.heap.size + 1, 0, none⟩ = some (.string qq) ∧ w'.cell? ⟨w.heap.size + 1, 1, none⟩ = some (.int .i64 num) ∧ w'.cell? ⟨w.heap.size + 1, 2, none⟩ = some (.string opt) ∧ w'.cell? ⟨w.heap.size + 1, 3, none⟩ = some (.string wds)) (first | go_keep | exact ⟨by assumption, by assumption, by assumption, by assumption, by assumption⟩) (first | (go_at_call 123; refine (HU.out _).mono ?_; rintro e q ⟨rfl, hq⟩; have hp1 : All ((w.alloc (.cells #[.string key, .int .i64 1, .int .i64 most, .slice oa m oc, .bool needed, .bool secret] 73)).alloc (.cells #[.string qq, .int .i64 num, .string opt, .string wds] 78)) q := Kept.trans (by repeat (first | exact Kept.refl _ _ | refine Kept.then_drew ?_ | refine Kept.then_drewN ?_ _ | refine Kept.then_alloc ?_ _)) hq; have a1 := hp1.cell e1 trivial; have a2 := hp1.cell e2 trivial; have a3 := hp1.cell e3 trivial; have c0 := hp1.cell d0 trivial; have c1 := hp1.cell d1 trivial; have c2 := hp1.cell d2 trivial; have c3 := hp1.cell d3 trivial))
      go_wp2_with fail
      go_ret
      exact ⟨ret_int' hfin.out.symm, (hk2.trans hp1)⟩
  by_cases hn2 : kind = 2
  · subst hn2
    have HU := Lib.hid (fun (wx : World) => (show Calls Tryz.prog 123 #[.int .i64 2, .agg #[.string qq, .int .i64 num, .string opt, .string wds]] wx fun e w' => e = .returned (.agg #[.string qq, .int .i64 0, .string opt, .string ⟨#[]⟩]) ∧ All wx w' from used_any 2 ⟨qq, num, opt, wds⟩ wx))
    by_cases hA : num = 0
    · obtain rfl : num = 0 := hA
      by_cases hB : wds.size = 0
      · obtain rfl : wds = ⟨#[]⟩ := empty_of_size hB
        cases hM : memB opt opts with
        | false =>
          have hfin := Lib.hid (show answerF ⟨key, 2, most, opts, needed, secret⟩ ⟨qq, 0, opt, ⟨#[]⟩⟩ = 8 from (answerF_2 rfl (by unfold spareOk; rw [if_neg (show ¬ (2 : Int) = 1 by decide), if_pos rfl]; exact ⟨rfl, rfl⟩)).trans (if_pos hM))
          go_wp2_with fail
          go_region_held3 (fun w' => w'.cell? ⟨w.heap.size, 1, none⟩ = some (.int .i64 2) ∧ w'.cell? ⟨w.heap.size + 1, 0, none⟩ = some (.string qq) ∧ w'.cell? ⟨w.heap.size + 1, 1, none⟩ = some (.int .i64 0) ∧ w'.cell? ⟨w.heap.size + 1, 2, none⟩ = some (.string opt) ∧ w'.cell? ⟨w.heap.size + 1, 3, none⟩ = some (.string ⟨#[]⟩)) (first | go_keep | exact ⟨by assumption, by assumption, by assumption, by assumption, by assumption⟩) (first | (go_at_call 123; refine (HU.out _).mono ?_; rintro e q ⟨rfl, hq⟩; have hp1 : All ((w.alloc (.cells #[.string key, .int .i64 2, .int .i64 most, .slice oa m oc, .bool needed, .bool secret] 73)).alloc (.cells #[.string qq, .int .i64 0, .string opt, .string ⟨#[]⟩] 78)) q := Kept.trans (by repeat (first | exact Kept.refl _ _ | refine Kept.then_drew ?_ | refine Kept.then_drewN ?_ _ | refine Kept.then_alloc ?_ _)) hq; have a1 := hp1.cell e1 trivial; have a2 := hp1.cell e2 trivial; have a3 := hp1.cell e3 trivial; have c0 := hp1.cell d0 trivial; have c1 := hp1.cell d1 trivial; have c2 := hp1.cell d2 trivial; have c3 := hp1.cell d3 trivial))
          go_wp2_with fail
          refine (HS.out _ hp1).mono ?_
          rintro e wq ⟨rfl, hh⟩
          subst hh
          rw [hM]
          go_wp2_with fail
          go_ret
          exact ⟨ret_int' hfin.out.symm, (hk2.trans hp1)⟩
        | true =>
          have hfin := Lib.hid (show answerF ⟨key, 2, most, opts, needed, secret⟩ ⟨qq, 0, opt, ⟨#[]⟩⟩ = 0 from (answerF_2 rfl (by unfold spareOk; rw [if_neg (show ¬ (2 : Int) = 1 by decide), if_pos rfl]; exact ⟨rfl, rfl⟩)).trans (if_neg (by rw [hM]; decide)))
          go_wp2_with fail
          go_region_held3 (fun w' => w'.cell? ⟨w.heap.size, 1, none⟩ = some (.int .i64 2) ∧ w'.cell? ⟨w.heap.size + 1, 0, none⟩ = some (.string qq) ∧ w'.cell? ⟨w.heap.size + 1, 1, none⟩ = some (.int .i64 0) ∧ w'.cell? ⟨w.heap.size + 1, 2, none⟩ = some (.string opt) ∧ w'.cell? ⟨w.heap.size + 1, 3, none⟩ = some (.string ⟨#[]⟩)) (first | go_keep | exact ⟨by assumption, by assumption, by assumption, by assumption, by assumption⟩) (first | (go_at_call 123; refine (HU.out _).mono ?_; rintro e q ⟨rfl, hq⟩; have hp1 : All ((w.alloc (.cells #[.string key, .int .i64 2, .int .i64 most, .slice oa m oc, .bool needed, .bool secret] 73)).alloc (.cells #[.string qq, .int .i64 0, .string opt, .string ⟨#[]⟩] 78)) q := Kept.trans (by repeat (first | exact Kept.refl _ _ | refine Kept.then_drew ?_ | refine Kept.then_drewN ?_ _ | refine Kept.then_alloc ?_ _)) hq; have a1 := hp1.cell e1 trivial; have a2 := hp1.cell e2 trivial; have a3 := hp1.cell e3 trivial; have c0 := hp1.cell d0 trivial; have c1 := hp1.cell d1 trivial; have c2 := hp1.cell d2 trivial; have c3 := hp1.cell d3 trivial))
          go_wp2_with fail
          refine (HS.out _ hp1).mono ?_
          rintro e wq ⟨rfl, hh⟩
          subst hh
          rw [hM]
          go_wp2_with fail
          go_ret
          exact ⟨ret_int' hfin.out.symm, (hk2.trans hp1)⟩
      · obtain ⟨z1, z2⟩ := nempty hB (s := wds)
        have hfin := Lib.hid (show answerF ⟨key, 2, most, opts, needed, secret⟩ ⟨qq, 0, opt, wds⟩ = 3 from answerF_spare (by unfold spareOk; rw [if_neg (show ¬ (2 : Int) = 1 by decide), if_pos rfl]; exact fun h => hB h.2))
        go_wp2_with fail
        go_region_held3 (fun w' => w'.cell? ⟨w.heap.size, 1, none⟩ = some (.int .i64 2) ∧ w'.cell? ⟨w.heap.size + 1, 0, none⟩ = some (.string qq) ∧ w'.cell? ⟨w.heap.size + 1, 1, none⟩ = some (.int .i64 0) ∧ w'.cell? ⟨w.heap.size + 1, 2, none⟩ = some (.string opt) ∧ w'.cell? ⟨w.heap.size + 1, 3, none⟩ = some (.string wds)) (first | go_keep | exact ⟨by assumption, by assumption, by assumption, by assumption, by assumption⟩) (first | (go_at_call 123; refine (HU.out _).mono ?_; rintro e q ⟨rfl, hq⟩; have hp1 : All ((w.alloc (.cells #[.string key, .int .i64 2, .int .i64 most, .slice oa m oc, .bool needed, .bool secret] 73)).alloc (.cells #[.string qq, .int .i64 0, .string opt, .string wds] 78)) q := Kept.trans (by repeat (first | exact Kept.refl _ _ | refine Kept.then_drew ?_ | refine Kept.then_drewN ?_ _ | refine Kept.then_alloc ?_ _)) hq; have a1 := hp1.cell e1 trivial; have a2 := hp1.cell e2 trivial; have a3 := hp1.cell e3 trivial; have c0 := hp1.cell d0 trivial; have c1 := hp1.cell d1 trivial; have c2 := hp1.cell d2 trivial; have c3 := hp1.cell d3 trivial))
        go_wp2_with fail
        go_ret
        exact ⟨ret_int' hfin.out.symm, (hk2.trans hp1)⟩
    · have z1 : (num == 0) = false := by simpa using hA
      have z2 : ((0 : Int) == num) = false := by simpa using fun e => hA e.symm
      have hfin := Lib.hid (show answerF ⟨key, 2, most, opts, needed, secret⟩ ⟨qq, num, opt, wds⟩ = 3 from answerF_spare (by unfold spareOk; rw [if_neg (show ¬ (2 : Int) = 1 by decide), if_pos rfl]; exact fun h => hA h.1))
      go_wp2_with fail
      go_region_held3 (fun w' => w'.cell? ⟨w.heap.size, 1, none⟩ = some (.int .i64 2) ∧ w'.cell? ⟨w.heap.size + 1, 0, none⟩ = some (.string qq) ∧ w'.cell? ⟨w.heap.size + 1, 1, none⟩ = some (.int .i64 num) ∧ w'.cell? ⟨w.heap.size + 1, 2, none⟩ = some (.string opt) ∧ w'.cell? ⟨w.heap.size + 1, 3, none⟩ = some (.string wds)) (first | go_keep | exact ⟨by assumption, by assumption, by assumption, by assumption, by assumption⟩) (first | (go_at_call 123; refine (HU.out _).mono ?_; rintro e q ⟨rfl, hq⟩; have hp1 : All ((w.alloc (.cells #[.string key, .int .i64 2, .int .i64 most, .slice oa m oc, .bool needed, .bool secret] 73)).alloc (.cells #[.string qq, .int .i64 num, .string opt, .string wds] 78)) q := Kept.trans (by repeat (first | exact Kept.refl _ _ | refine Kept.then_drew ?_ | refine Kept.then_drewN ?_ _ | refine Kept.then_alloc ?_ _)) hq; have a1 := hp1.cell e1 trivial; have a2 := hp1.cell e2 trivial; have a3 := hp1.cell e3 trivial; have c0 := hp1.cell d0 trivial; have c1 := hp1.cell d1 trivial; have c2 := hp1.cell d2 trivial; have c3 := hp1.cell d3 trivial))
      go_wp2_with fail
      go_ret
      exact ⟨ret_int' hfin.out.symm, (hk2.trans hp1)⟩
  by_cases hn3 : kind = 3
  · subst hn3
    have HU := Lib.hid (fun (wx : World) => (show Calls Tryz.prog 123 #[.int .i64 3, .agg #[.string qq, .int .i64 num, .string opt, .string wds]] wx fun e w' => e = .returned (.agg #[.string qq, .int .i64 0, .string ⟨#[]⟩, .string wds]) ∧ All wx w' from used_any 3 ⟨qq, num, opt, wds⟩ wx))
    by_cases hA : num = 0
    · obtain rfl : num = 0 := hA
      by_cases hB : opt.size = 0
      · obtain rfl : opt = ⟨#[]⟩ := empty_of_size hB
        by_cases hZ : wds.size = 0
        · obtain rfl : wds = ⟨#[]⟩ := empty_of_size hZ
          have hfin := Lib.hid (show answerF ⟨key, 3, most, opts, needed, secret⟩ ⟨qq, 0, ⟨#[]⟩, ⟨#[]⟩⟩ = 3 from (answerF_3 rfl (by unfold spareOk; rw [if_neg (show ¬ (3 : Int) = 1 by decide), if_neg (show ¬ (3 : Int) = 2 by decide)]; exact ⟨rfl, rfl⟩)).trans (if_pos (Or.inl rfl)))
          cases hT : isTextB ⟨#[]⟩ with
          | false =>
            go_wp2_with fail
            go_region_held3 (fun w' => w'.cell? ⟨w.heap.size, 1, none⟩ = some (.int .i64 3) ∧ w'.cell? ⟨w.heap.size + 1, 0, none⟩ = some (.string qq) ∧ w'.cell? ⟨w.heap.size + 1, 1, none⟩ = some (.int .i64 0) ∧ w'.cell? ⟨w.heap.size + 1, 2, none⟩ = some (.string ⟨#[]⟩) ∧ w'.cell? ⟨w.heap.size + 1, 3, none⟩ = some (.string ⟨#[]⟩)) (first | go_keep | exact ⟨by assumption, by assumption, by assumption, by assumption, by assumption⟩) (first | (go_at_call 123; refine (HU.out _).mono ?_; rintro e q ⟨rfl, hq⟩; have hp1 : All ((w.alloc (.cells #[.string key, .int .i64 3, .int .i64 most, .slice oa m oc, .bool needed, .bool secret] 73)).alloc (.cells #[.string qq, .int .i64 0, .string ⟨#[]⟩, .string ⟨#[]⟩] 78)) q := Kept.trans (by repeat (first | exact Kept.refl _ _ | refine Kept.then_drew ?_ | refine Kept.then_drewN ?_ _ | refine Kept.then_alloc ?_ _)) hq; have a1 := hp1.cell e1 trivial; have a2 := hp1.cell e2 trivial; have a3 := hp1.cell e3 trivial; have c0 := hp1.cell d0 trivial; have c1 := hp1.cell d1 trivial; have c2 := hp1.cell d2 trivial; have c3 := hp1.cell d3 trivial))
            go_wp2_with fail
            refine (HG.out _ hp1).mono ?_
            rintro e wt ⟨rfl, ht⟩
            rw [hT]
            have a1t := ht.cell a1 trivial
            have a2t := ht.cell a2 trivial
            have c3t := ht.cell c3 trivial
            go_wp2_with fail
            go_ret
            exact ⟨ret_int' hfin.out.symm, (hk2.trans (hp1.trans ht))⟩
          | true =>
            go_wp2_with fail
            go_region_held3 (fun w' => w'.cell? ⟨w.heap.size, 1, none⟩ = some (.int .i64 3) ∧ w'.cell? ⟨w.heap.size + 1, 0, none⟩ = some (.string qq) ∧ w'.cell? ⟨w.heap.size + 1, 1, none⟩ = some (.int .i64 0) ∧ w'.cell? ⟨w.heap.size + 1, 2, none⟩ = some (.string ⟨#[]⟩) ∧ w'.cell? ⟨w.heap.size + 1, 3, none⟩ = some (.string ⟨#[]⟩)) (first | go_keep | exact ⟨by assumption, by assumption, by assumption, by assumption, by assumption⟩) (first | (go_at_call 123; refine (HU.out _).mono ?_; rintro e q ⟨rfl, hq⟩; have hp1 : All ((w.alloc (.cells #[.string key, .int .i64 3, .int .i64 most, .slice oa m oc, .bool needed, .bool secret] 73)).alloc (.cells #[.string qq, .int .i64 0, .string ⟨#[]⟩, .string ⟨#[]⟩] 78)) q := Kept.trans (by repeat (first | exact Kept.refl _ _ | refine Kept.then_drew ?_ | refine Kept.then_drewN ?_ _ | refine Kept.then_alloc ?_ _)) hq; have a1 := hp1.cell e1 trivial; have a2 := hp1.cell e2 trivial; have a3 := hp1.cell e3 trivial; have c0 := hp1.cell d0 trivial; have c1 := hp1.cell d1 trivial; have c2 := hp1.cell d2 trivial; have c3 := hp1.cell d3 trivial))
            go_wp2_with fail
            refine (HG.out _ hp1).mono ?_
            rintro e wt ⟨rfl, ht⟩
            rw [hT]
            have a1t := ht.cell a1 trivial
            have a2t := ht.cell a2 trivial
            have c3t := ht.cell c3 trivial
            go_wp2_with fail
            go_ret
            exact ⟨ret_int' hfin.out.symm, (hk2.trans (hp1.trans ht))⟩
        · have hze : (wds.toList == []) = false := by rw [beq_eq_false_iff_ne]; exact toList_ne hZ
          cases hT : isTextB wds with
          | false =>
            have hfin := Lib.hid (show answerF ⟨key, 3, most, opts, needed, secret⟩ ⟨qq, 0, ⟨#[]⟩, wds⟩ = 3 from (answerF_3 rfl (by unfold spareOk; rw [if_neg (show ¬ (3 : Int) = 1 by decide), if_neg (show ¬ (3 : Int) = 2 by decide)]; exact ⟨rfl, rfl⟩)).trans (if_pos (Or.inr hT)))
            clear hZ
            go_wp2_with fail
            go_region_held3 (fun w' => w'.cell? ⟨w.heap.size, 1, none⟩ = some (.int .i64 3) ∧ w'.cell? ⟨w.heap.size + 1, 0, none⟩ = some (.string qq) ∧ w'.cell? ⟨w.heap.size + 1, 1, none⟩ = some (.int .i64 0) ∧ w'.cell? ⟨w.heap.size + 1, 2, none⟩ = some (.string ⟨#[]⟩) ∧ w'.cell? ⟨w.heap.size + 1, 3, none⟩ = some (.string wds)) (first | go_keep | exact ⟨by assumption, by assumption, by assumption, by assumption, by assumption⟩) (first | (go_at_call 123; refine (HU.out _).mono ?_; rintro e q ⟨rfl, hq⟩; have hp1 : All ((w.alloc (.cells #[.string key, .int .i64 3, .int .i64 most, .slice oa m oc, .bool needed, .bool secret] 73)).alloc (.cells #[.string qq, .int .i64 0, .string ⟨#[]⟩, .string wds] 78)) q := Kept.trans (by repeat (first | exact Kept.refl _ _ | refine Kept.then_drew ?_ | refine Kept.then_drewN ?_ _ | refine Kept.then_alloc ?_ _)) hq; have a1 := hp1.cell e1 trivial; have a2 := hp1.cell e2 trivial; have a3 := hp1.cell e3 trivial; have c0 := hp1.cell d0 trivial; have c1 := hp1.cell d1 trivial; have c2 := hp1.cell d2 trivial; have c3 := hp1.cell d3 trivial))
            go_wp2_with fail
            refine (HG.out _ hp1).mono ?_
            rintro e wt ⟨rfl, ht⟩
            rw [hT]
            have a1t := ht.cell a1 trivial
            have a2t := ht.cell a2 trivial
            have c3t := ht.cell c3 trivial
            go_wp2_with fail
            go_ret
            exact ⟨ret_int' hfin.out.symm, (hk2.trans (hp1.trans ht))⟩
          | true =>
            have hno : ¬ (wds.size = 0 ∨ isTextB wds = false) := fun h => h.elim hZ (fun e => by rw [hT] at e; cases e)
            by_cases hL : most < (wds.size : Int)
            · have hd : decide (most < (wds.size : Int)) = true := by simpa using hL
              have hfin := Lib.hid (show answerF ⟨key, 3, most, opts, needed, secret⟩ ⟨qq, 0, ⟨#[]⟩, wds⟩ = 2 from (answerF_3 rfl (by unfold spareOk; rw [if_neg (show ¬ (3 : Int) = 1 by decide), if_neg (show ¬ (3 : Int) = 2 by decide)]; exact ⟨rfl, rfl⟩)).trans ((if_neg hno).trans (if_pos hL)))
              clear hZ hno hL
              go_wp2_with fail
              go_region_held3 (fun w' => w'.cell? ⟨w.heap.size, 1, none⟩ = some (.int .i64 3) ∧ w'.cell? ⟨w.heap.size + 1, 0, none⟩ = some (.string qq) ∧ w'.cell? ⟨w.heap.size + 1, 1, none⟩ = some (.int .i64 0) ∧ w'.cell? ⟨w.heap.size + 1, 2, none⟩ = some (.string ⟨#[]⟩) ∧ w'.cell? ⟨w.heap.size + 1, 3, none⟩ = some (.string wds)) (first | go_keep | exact ⟨by assumption, by assumption, by assumption, by assumption, by assumption⟩) (first | (go_at_call 123; refine (HU.out _).mono ?_; rintro e q ⟨rfl, hq⟩; have hp1 : All ((w.alloc (.cells #[.string key, .int .i64 3, .int .i64 most, .slice oa m oc, .bool needed, .bool secret] 73)).alloc (.cells #[.string qq, .int .i64 0, .string ⟨#[]⟩, .string wds] 78)) q := Kept.trans (by repeat (first | exact Kept.refl _ _ | refine Kept.then_drew ?_ | refine Kept.then_drewN ?_ _ | refine Kept.then_alloc ?_ _)) hq; have a1 := hp1.cell e1 trivial; have a2 := hp1.cell e2 trivial; have a3 := hp1.cell e3 trivial; have c0 := hp1.cell d0 trivial; have c1 := hp1.cell d1 trivial; have c2 := hp1.cell d2 trivial; have c3 := hp1.cell d3 trivial))
              go_wp2_with fail
              refine (HG.out _ hp1).mono ?_
              rintro e wt ⟨rfl, ht⟩
              rw [hT]
              have a1t := ht.cell a1 trivial
              have a2t := ht.cell a2 trivial
              have c3t := ht.cell c3 trivial
              go_wp2_with fail
              go_ret
              exact ⟨ret_int' hfin.out.symm, (hk2.trans (hp1.trans ht))⟩
            · have hd : decide (most < (wds.size : Int)) = false := by simpa using hL
              have hfin := Lib.hid (show answerF ⟨key, 3, most, opts, needed, secret⟩ ⟨qq, 0, ⟨#[]⟩, wds⟩ = 0 from (answerF_3 rfl (by unfold spareOk; rw [if_neg (show ¬ (3 : Int) = 1 by decide), if_neg (show ¬ (3 : Int) = 2 by decide)]; exact ⟨rfl, rfl⟩)).trans ((if_neg hno).trans (if_neg hL)))
              clear hZ hno hL
              go_wp2_with fail
              go_region_held3 (fun w' => w'.cell? ⟨w.heap.size, 1, none⟩ = some (.int .i64 3) ∧ w'.cell? ⟨w.heap.size + 1, 0, none⟩ = some (.string qq) ∧ w'.cell? ⟨w.heap.size + 1, 1, none⟩ = some (.int .i64 0) ∧ w'.cell? ⟨w.heap.size + 1, 2, none⟩ = some (.string ⟨#[]⟩) ∧ w'.cell? ⟨w.heap.size + 1, 3, none⟩ = some (.string wds)) (first | go_keep | exact ⟨by assumption, by assumption, by assumption, by assumption, by assumption⟩) (first | (go_at_call 123; refine (HU.out _).mono ?_; rintro e q ⟨rfl, hq⟩; have hp1 : All ((w.alloc (.cells #[.string key, .int .i64 3, .int .i64 most, .slice oa m oc, .bool needed, .bool secret] 73)).alloc (.cells #[.string qq, .int .i64 0, .string ⟨#[]⟩, .string wds] 78)) q := Kept.trans (by repeat (first | exact Kept.refl _ _ | refine Kept.then_drew ?_ | refine Kept.then_drewN ?_ _ | refine Kept.then_alloc ?_ _)) hq; have a1 := hp1.cell e1 trivial; have a2 := hp1.cell e2 trivial; have a3 := hp1.cell e3 trivial; have c0 := hp1.cell d0 trivial; have c1 := hp1.cell d1 trivial; have c2 := hp1.cell d2 trivial; have c3 := hp1.cell d3 trivial))
              go_wp2_with fail
              refine (HG.out _ hp1).mono ?_
              rintro e wt ⟨rfl, ht⟩
              rw [hT]
              have a1t := ht.cell a1 trivial
              have a2t := ht.cell a2 trivial
              have c3t := ht.cell c3 trivial
              go_wp2_with fail
              go_ret
              exact ⟨ret_int' hfin.out.symm, (hk2.trans (hp1.trans ht))⟩
      · obtain ⟨z1, z2⟩ := nempty hB (s := opt)
        have hfin := Lib.hid (show answerF ⟨key, 3, most, opts, needed, secret⟩ ⟨qq, 0, opt, wds⟩ = 3 from answerF_spare (by unfold spareOk; rw [if_neg (show ¬ (3 : Int) = 1 by decide), if_neg (show ¬ (3 : Int) = 2 by decide)]; exact fun h => hB h.2))
        go_wp2_with fail
        go_region_held3 (fun w' => w'.cell? ⟨w.heap.size, 1, none⟩ = some (.int .i64 3) ∧ w'.cell? ⟨w.heap.size + 1, 0, none⟩ = some (.string qq) ∧ w'.cell? ⟨w.heap.size + 1, 1, none⟩ = some (.int .i64 0) ∧ w'.cell? ⟨w.heap.size + 1, 2, none⟩ = some (.string opt) ∧ w'.cell? ⟨w.heap.size + 1, 3, none⟩ = some (.string wds)) (first | go_keep | exact ⟨by assumption, by assumption, by assumption, by assumption, by assumption⟩) (first | (go_at_call 123; refine (HU.out _).mono ?_; rintro e q ⟨rfl, hq⟩; have hp1 : All ((w.alloc (.cells #[.string key, .int .i64 3, .int .i64 most, .slice oa m oc, .bool needed, .bool secret] 73)).alloc (.cells #[.string qq, .int .i64 0, .string opt, .string wds] 78)) q := Kept.trans (by repeat (first | exact Kept.refl _ _ | refine Kept.then_drew ?_ | refine Kept.then_drewN ?_ _ | refine Kept.then_alloc ?_ _)) hq; have a1 := hp1.cell e1 trivial; have a2 := hp1.cell e2 trivial; have a3 := hp1.cell e3 trivial; have c0 := hp1.cell d0 trivial; have c1 := hp1.cell d1 trivial; have c2 := hp1.cell d2 trivial; have c3 := hp1.cell d3 trivial))
        go_wp2_with fail
        go_ret
        exact ⟨ret_int' hfin.out.symm, (hk2.trans hp1)⟩
    · have z1 : (num == 0) = false := by simpa using hA
      have z2 : ((0 : Int) == num) = false := by simpa using fun e => hA e.symm
      have hfin := Lib.hid (show answerF ⟨key, 3, most, opts, needed, secret⟩ ⟨qq, num, opt, wds⟩ = 3 from answerF_spare (by unfold spareOk; rw [if_neg (show ¬ (3 : Int) = 1 by decide), if_neg (show ¬ (3 : Int) = 2 by decide)]; exact fun h => hA h.1))
      go_wp2_with fail
      go_region_held3 (fun w' => w'.cell? ⟨w.heap.size, 1, none⟩ = some (.int .i64 3) ∧ w'.cell? ⟨w.heap.size + 1, 0, none⟩ = some (.string qq) ∧ w'.cell? ⟨w.heap.size + 1, 1, none⟩ = some (.int .i64 num) ∧ w'.cell? ⟨w.heap.size + 1, 2, none⟩ = some (.string opt) ∧ w'.cell? ⟨w.heap.size + 1, 3, none⟩ = some (.string wds)) (first | go_keep | exact ⟨by assumption, by assumption, by assumption, by assumption, by assumption⟩) (first | (go_at_call 123; refine (HU.out _).mono ?_; rintro e q ⟨rfl, hq⟩; have hp1 : All ((w.alloc (.cells #[.string key, .int .i64 3, .int .i64 most, .slice oa m oc, .bool needed, .bool secret] 73)).alloc (.cells #[.string qq, .int .i64 num, .string opt, .string wds] 78)) q := Kept.trans (by repeat (first | exact Kept.refl _ _ | refine Kept.then_drew ?_ | refine Kept.then_drewN ?_ _ | refine Kept.then_alloc ?_ _)) hq; have a1 := hp1.cell e1 trivial; have a2 := hp1.cell e2 trivial; have a3 := hp1.cell e3 trivial; have c0 := hp1.cell d0 trivial; have c1 := hp1.cell d1 trivial; have c2 := hp1.cell d2 trivial; have c3 := hp1.cell d3 trivial))
      go_wp2_with fail
      go_ret
      exact ⟨ret_int' hfin.out.symm, (hk2.trans hp1)⟩
  have g1 : (kind == 1) = false := by simpa using hn1
  have g2 : (kind == 2) = false := by simpa using hn2
  have g3 : (kind == 3) = false := by simpa using hn3
  have HU := Lib.hid (fun (wx : World) => (show Calls Tryz.prog 123 #[.int .i64 kind, .agg #[.string qq, .int .i64 num, .string opt, .string wds]] wx fun e w' => e = .returned (.agg #[.string qq, .int .i64 0, .string ⟨#[]⟩, .string wds]) ∧ All wx w' from by have h := used_any kind ⟨qq, num, opt, wds⟩ wx; rw [usedA, if_neg hn1, if_neg hn2] at h; exact h))
  by_cases hA : num = 0
  · obtain rfl : num = 0 := hA
    by_cases hB : opt.size = 0
    · obtain rfl : opt = ⟨#[]⟩ := empty_of_size hB
      have hfin := Lib.hid (show answerF ⟨key, kind, most, opts, needed, secret⟩ ⟨qq, 0, ⟨#[]⟩, wds⟩ = 0 from answerF_o hn1 hn2 hn3 (by unfold spareOk; rw [if_neg hn1, if_neg hn2]; exact ⟨rfl, rfl⟩))
      go_wp2_with fail
      go_region_held3 (fun w' => w'.cell? ⟨w.heap.size, 1, none⟩ = some (.int .i64 kind) ∧ w'.cell? ⟨w.heap.size + 1, 0, none⟩ = some (.string qq) ∧ w'.cell? ⟨w.heap.size + 1, 1, none⟩ = some (.int .i64 0) ∧ w'.cell? ⟨w.heap.size + 1, 2, none⟩ = some (.string ⟨#[]⟩) ∧ w'.cell? ⟨w.heap.size + 1, 3, none⟩ = some (.string wds)) (first | go_keep | exact ⟨by assumption, by assumption, by assumption, by assumption, by assumption⟩) (first | (go_at_call 123; refine (HU.out _).mono ?_; rintro e q ⟨rfl, hq⟩; have hp1 : All ((w.alloc (.cells #[.string key, .int .i64 kind, .int .i64 most, .slice oa m oc, .bool needed, .bool secret] 73)).alloc (.cells #[.string qq, .int .i64 0, .string ⟨#[]⟩, .string wds] 78)) q := Kept.trans (by repeat (first | exact Kept.refl _ _ | refine Kept.then_drew ?_ | refine Kept.then_drewN ?_ _ | refine Kept.then_alloc ?_ _)) hq; have a1 := hp1.cell e1 trivial; have a2 := hp1.cell e2 trivial; have a3 := hp1.cell e3 trivial; have c0 := hp1.cell d0 trivial; have c1 := hp1.cell d1 trivial; have c2 := hp1.cell d2 trivial; have c3 := hp1.cell d3 trivial))
      go_wp2_with fail
      go_ret
      exact ⟨ret_int' hfin.out.symm, (hk2.trans hp1)⟩
    · obtain ⟨z1, z2⟩ := nempty hB (s := opt)
      have hfin := Lib.hid (show answerF ⟨key, kind, most, opts, needed, secret⟩ ⟨qq, 0, opt, wds⟩ = 3 from answerF_spare (by unfold spareOk; rw [if_neg hn1, if_neg hn2]; exact fun h => hB h.2))
      go_wp2_with fail
      go_region_held3 (fun w' => w'.cell? ⟨w.heap.size, 1, none⟩ = some (.int .i64 kind) ∧ w'.cell? ⟨w.heap.size + 1, 0, none⟩ = some (.string qq) ∧ w'.cell? ⟨w.heap.size + 1, 1, none⟩ = some (.int .i64 0) ∧ w'.cell? ⟨w.heap.size + 1, 2, none⟩ = some (.string opt) ∧ w'.cell? ⟨w.heap.size + 1, 3, none⟩ = some (.string wds)) (first | go_keep | exact ⟨by assumption, by assumption, by assumption, by assumption, by assumption⟩) (first | (go_at_call 123; refine (HU.out _).mono ?_; rintro e q ⟨rfl, hq⟩; have hp1 : All ((w.alloc (.cells #[.string key, .int .i64 kind, .int .i64 most, .slice oa m oc, .bool needed, .bool secret] 73)).alloc (.cells #[.string qq, .int .i64 0, .string opt, .string wds] 78)) q := Kept.trans (by repeat (first | exact Kept.refl _ _ | refine Kept.then_drew ?_ | refine Kept.then_drewN ?_ _ | refine Kept.then_alloc ?_ _)) hq; have a1 := hp1.cell e1 trivial; have a2 := hp1.cell e2 trivial; have a3 := hp1.cell e3 trivial; have c0 := hp1.cell d0 trivial; have c1 := hp1.cell d1 trivial; have c2 := hp1.cell d2 trivial; have c3 := hp1.cell d3 trivial))
      go_wp2_with fail
      go_ret
      exact ⟨ret_int' hfin.out.symm, (hk2.trans hp1)⟩
  · have z1 : (num == 0) = false := by simpa using hA
    have z2 : ((0 : Int) == num) = false := by simpa using fun e => hA e.symm
    have hfin := Lib.hid (show answerF ⟨key, kind, most, opts, needed, secret⟩ ⟨qq, num, opt, wds⟩ = 3 from answerF_spare (by unfold spareOk; rw [if_neg hn1, if_neg hn2]; exact fun h => hA h.1))
    go_wp2_with fail
    go_region_held3 (fun w' => w'.cell? ⟨w.heap.size, 1, none⟩ = some (.int .i64 kind) ∧ w'.cell? ⟨w.heap.size + 1, 0, none⟩ = some (.string qq) ∧ w'.cell? ⟨w.heap.size + 1, 1, none⟩ = some (.int .i64 num) ∧ w'.cell? ⟨w.heap.size + 1, 2, none⟩ = some (.string opt) ∧ w'.cell? ⟨w.heap.size + 1, 3, none⟩ = some (.string wds)) (first | go_keep | exact ⟨by assumption, by assumption, by assumption, by assumption, by assumption⟩) (first | (go_at_call 123; refine (HU.out _).mono ?_; rintro e q ⟨rfl, hq⟩; have hp1 : All ((w.alloc (.cells #[.string key, .int .i64 kind, .int .i64 most, .slice oa m oc, .bool needed, .bool secret] 73)).alloc (.cells #[.string qq, .int .i64 num, .string opt, .string wds] 78)) q := Kept.trans (by repeat (first | exact Kept.refl _ _ | refine Kept.then_drew ?_ | refine Kept.then_drewN ?_ _ | refine Kept.then_alloc ?_ _)) hq; have a1 := hp1.cell e1 trivial; have a2 := hp1.cell e2 trivial; have a3 := hp1.cell e3 trivial; have c0 := hp1.cell d0 trivial; have c1 := hp1.cell d1 trivial; have c2 := hp1.cell d2 trivial; have c3 := hp1.cell d3 trivial))
    go_wp2_with fail
    go_ret
    exact ⟨ret_int' hfin.out.symm, (hk2.trans hp1)⟩

set_option maxRecDepth 100000 in
set_option maxHeartbeats 6400000 in
theorem answerFaultR_any (q : Qst) (x : Ans4) (oa : Option Addr) (oc : Nat) (w : World) (hsm : QstSmall q) (hxm : AnsSmall x) (hs : Sl RStr 1 (fun _ => True) w oa q.opts.length q.opts) (hg : Tabs w) :
    Calls Tryz.prog 50 #[.agg #[.string q.key, .int .i64 q.kind, .int .i64 q.most, .slice oa q.opts.length oc, .bool q.needed, .bool q.secret], ansVal x] w fun e w' => e = .returned (.int .i64 (answerF q x)) ∧ All w w' := by
  obtain ⟨key, kind, most, opts, needed, secret⟩ := q
  obtain ⟨qq, num, opt, wds⟩ := x
  obtain ⟨-, hsm⟩ := hsm
  obtain ⟨-, hx2, hx3⟩ := hxm
  dsimp only at *
  obtain ⟨m, hm⟩ : ∃ m, m = opts.length := ⟨_, rfl⟩
  have HM := Lib.hid hm
  rw [← hm] at hs hsm ⊢
  clear hm
  have hk2 : All w ((w.alloc (.cells #[.string key, .int .i64 kind, .int .i64 most, .slice oa m oc, .bool needed, .bool secret] 73)).alloc (.cells #[.string qq, .int .i64 num, .string opt, .string wds] 78)) := (Kept.alloc _ _ _).then_alloc _
  have b1 := heap_old (.cells #[.string qq, .int .i64 num, .string opt, .string wds] 78) (heap_at w (.cells #[.string key, .int .i64 kind, .int .i64 most, .slice oa m oc, .bool needed, .bool secret] 73) _ rfl)
  have b2 := heap_at (w.alloc (.cells #[.string key, .int .i64 kind, .int .i64 most, .slice oa m oc, .bool needed, .bool secret] 73)) (.cells #[.string qq, .int .i64 num, .string opt, .string wds] 78) (w.heap.size + 1) (by simp)
  have HS := Lib.hid (fun (wx : World) (h : All ((w.alloc (.cells #[.string key, .int .i64 kind, .int .i64 most, .slice oa m oc, .bool needed, .bool secret] 73)).alloc (.cells #[.string qq, .int .i64 num, .string opt, .string wds] 78)) wx) => contains_any oa m oc opts opt wx ((hs.keep RStr.ok hk2).keep RStr.ok h) (by omega))
  have HG := Lib.hid (fun (wx : World) (h : All ((w.alloc (.cells #[.string key, .int .i64 kind, .int .i64 most, .slice oa m oc, .bool needed, .bool secret] 73)).alloc (.cells #[.string qq, .int .i64 num, .string opt, .string wds] 78)) wx) => isTextR_any wds wx hx3 ((hg.keep hk2).keep h))
  clear hs hg
  have e0 := cell_at (i := 0) b1 rfl
  have e1 := cell_at (i := 1) b1 rfl
  have e2 := cell_at (i := 2) b1 rfl
  have e3 := cell_at (i := 3) b1 rfl
  have e4 := cell_at (i := 4) b1 rfl
  have e5 := cell_at (i := 5) b1 rfl
  have d0 := cell_at (i := 0) b2 rfl
  have d1 := cell_at (i := 1) b2 rfl
  have d2 := cell_at (i := 2) b2 rfl
  have d3 := cell_at (i := 3) b2 rfl
  clear b1 b2
  go_enter Tryz.func50, Tryz.ntmps50
  by_cases hn1 : kind = 1
  · subst hn1
    by_cases hA : opt.size = 0
    · obtain rfl : opt = ⟨#[]⟩ := empty_of_size hA
      by_cases hB : wds.size = 0
      · obtain rfl : wds = ⟨#[]⟩ := empty_of_size hB
        by_cases hN : num < 0 ∨ most < num
        · have hd : decide (0 ≤ num ∧ num ≤ most) = false := by simp; omega
          have hfin := Lib.hid (show answerF ⟨key, 1, most, opts, needed, secret⟩ ⟨qq, num, ⟨#[]⟩, ⟨#[]⟩⟩ = 1 from (answerF_1 rfl (by unfold spareOk; rw [if_pos rfl]; exact ⟨rfl, rfl⟩)).trans (if_pos hN))
          clear hN
          go_wp2_with fail
          refine (in_any num 0 most _).mono ?_
          rintro e wq ⟨rfl, hh⟩
          subst hh
          rw [hd]
          go_wp2_with fail
          go_ret
          exact ⟨ret_int' hfin.out.symm, (hk2.then_alloc _)⟩
        · have hd : decide (0 ≤ num ∧ num ≤ most) = true := by simp; omega
          have hfin := Lib.hid (show answerF ⟨key, 1, most, opts, needed, secret⟩ ⟨qq, num, ⟨#[]⟩, ⟨#[]⟩⟩ = 0 from (answerF_1 rfl (by unfold spareOk; rw [if_pos rfl]; exact ⟨rfl, rfl⟩)).trans (if_neg hN))
          clear hN
          go_wp2_with fail
          refine (in_any num 0 most _).mono ?_
          rintro e wq ⟨rfl, hh⟩
          subst hh
          rw [hd]
          go_wp2_with fail
          go_ret
          exact ⟨ret_int' hfin.out.symm, (hk2.then_alloc _)⟩
      · obtain ⟨z1, z2⟩ := nempty hB (s := wds)
        have hfin := Lib.hid (show answerF ⟨key, 1, most, opts, needed, secret⟩ ⟨qq, num, ⟨#[]⟩, wds⟩ = 3 from answerF_spare (by unfold spareOk; rw [if_pos rfl]; exact fun h => hB h.2))
        go_wp2_with fail
        go_ret
        exact ⟨ret_int' hfin.out.symm, (hk2.then_alloc _)⟩
    · obtain ⟨z1, z2⟩ := nempty hA (s := opt)
      have hfin := Lib.hid (show answerF ⟨key, 1, most, opts, needed, secret⟩ ⟨qq, num, opt, wds⟩ = 3 from answerF_spare (by unfold spareOk; rw [if_pos rfl]; exact fun h => hA h.1))
      go_wp2_with fail
      go_ret
      exact ⟨ret_int' hfin.out.symm, (hk2.then_alloc _)⟩
  by_cases hn2 : kind = 2
  · subst hn2
    by_cases hA : num = 0
    · obtain rfl : num = 0 := hA
      by_cases hB : wds.size = 0
      · obtain rfl : wds = ⟨#[]⟩ := empty_of_size hB
        cases hM : memB opt opts with
        | false =>
          have hfin := Lib.hid (show answerF ⟨key, 2, most, opts, needed, secret⟩ ⟨qq, 0, opt, ⟨#[]⟩⟩ = 8 from (answerF_2 rfl (by unfold spareOk; rw [if_neg (show ¬ (2 : Int) = 1 by decide), if_pos rfl]; exact ⟨rfl, rfl⟩)).trans (if_pos hM))
          go_wp2_with fail
          refine (HS.out _ (Kept.alloc _ _ _)).mono ?_
          rintro e wq ⟨rfl, hh⟩
          subst hh
          rw [hM]
          go_wp2_with fail
          go_ret
          exact ⟨ret_int' hfin.out.symm, (hk2.then_alloc _)⟩
        | true =>
          have hfin := Lib.hid (show answerF ⟨key, 2, most, opts, needed, secret⟩ ⟨qq, 0, opt, ⟨#[]⟩⟩ = 0 from (answerF_2 rfl (by unfold spareOk; rw [if_neg (show ¬ (2 : Int) = 1 by decide), if_pos rfl]; exact ⟨rfl, rfl⟩)).trans (if_neg (by rw [hM]; decide)))
          go_wp2_with fail
          refine (HS.out _ (Kept.alloc _ _ _)).mono ?_
          rintro e wq ⟨rfl, hh⟩
          subst hh
          rw [hM]
          go_wp2_with fail
          go_ret
          exact ⟨ret_int' hfin.out.symm, (hk2.then_alloc _)⟩
      · obtain ⟨z1, z2⟩ := nempty hB (s := wds)
        have hfin := Lib.hid (show answerF ⟨key, 2, most, opts, needed, secret⟩ ⟨qq, 0, opt, wds⟩ = 3 from answerF_spare (by unfold spareOk; rw [if_neg (show ¬ (2 : Int) = 1 by decide), if_pos rfl]; exact fun h => hB h.2))
        go_wp2_with fail
        go_ret
        exact ⟨ret_int' hfin.out.symm, (hk2.then_alloc _)⟩
    · have z1 : (num == 0) = false := by simpa using hA
      have z2 : ((0 : Int) == num) = false := by simpa using fun e => hA e.symm
      have hfin := Lib.hid (show answerF ⟨key, 2, most, opts, needed, secret⟩ ⟨qq, num, opt, wds⟩ = 3 from answerF_spare (by unfold spareOk; rw [if_neg (show ¬ (2 : Int) = 1 by decide), if_pos rfl]; exact fun h => hA h.1))
      go_wp2_with fail
      go_ret
      exact ⟨ret_int' hfin.out.symm, (hk2.then_alloc _)⟩
  by_cases hn3 : kind = 3
  · subst hn3
    by_cases hA : num = 0
    · obtain rfl : num = 0 := hA
      by_cases hB : opt.size = 0
      · obtain rfl : opt = ⟨#[]⟩ := empty_of_size hB
        by_cases hZ : wds.size = 0
        · obtain rfl : wds = ⟨#[]⟩ := empty_of_size hZ
          have hfin := Lib.hid (show answerF ⟨key, 3, most, opts, needed, secret⟩ ⟨qq, 0, ⟨#[]⟩, ⟨#[]⟩⟩ = 3 from (answerF_3 rfl (by unfold spareOk; rw [if_neg (show ¬ (3 : Int) = 1 by decide), if_neg (show ¬ (3 : Int) = 2 by decide)]; exact ⟨rfl, rfl⟩)).trans (if_pos (Or.inl rfl)))
          go_wp2_with fail
          go_ret
          exact ⟨ret_int' hfin.out.symm, (hk2.then_alloc _)⟩
        · have hze : (wds.toList == []) = false := by rw [beq_eq_false_iff_ne]; exact toList_ne hZ
          cases hT : isTextB wds with
          | false =>
            have hfin := Lib.hid (show answerF ⟨key, 3, most, opts, needed, secret⟩ ⟨qq, 0, ⟨#[]⟩, wds⟩ = 3 from (answerF_3 rfl (by unfold spareOk; rw [if_neg (show ¬ (3 : Int) = 1 by decide), if_neg (show ¬ (3 : Int) = 2 by decide)]; exact ⟨rfl, rfl⟩)).trans (if_pos (Or.inr hT)))
            clear hZ
            go_wp2_with fail
            refine (HG.out _ (Kept.alloc _ _ _)).mono ?_
            rintro e wt ⟨rfl, ht⟩
            rw [hT]
            have k3 := ht.cell (Kept.cell (F := fun _ => True) (Kept.alloc _ _ _) d3 trivial) trivial
            have k1 := ht.cell (Kept.cell (F := fun _ => True) (Kept.alloc _ _ _) e1 trivial) trivial
            have k2 := ht.cell (Kept.cell (F := fun _ => True) (Kept.alloc _ _ _) e2 trivial) trivial
            go_wp2_with fail
            go_ret
            exact ⟨ret_int' hfin.out.symm, ((hk2.then_alloc _).trans ht)⟩
          | true =>
            have hno : ¬ (wds.size = 0 ∨ isTextB wds = false) := fun h => h.elim hZ (fun e => by rw [hT] at e; cases e)
            by_cases hL : most < (wds.size : Int)
            · have hd : decide (most < (wds.size : Int)) = true := by simpa using hL
              have hfin := Lib.hid (show answerF ⟨key, 3, most, opts, needed, secret⟩ ⟨qq, 0, ⟨#[]⟩, wds⟩ = 2 from (answerF_3 rfl (by unfold spareOk; rw [if_neg (show ¬ (3 : Int) = 1 by decide), if_neg (show ¬ (3 : Int) = 2 by decide)]; exact ⟨rfl, rfl⟩)).trans ((if_neg hno).trans (if_pos hL)))
              clear hZ hno hL
              go_wp2_with fail
              refine (HG.out _ (Kept.alloc _ _ _)).mono ?_
              rintro e wt ⟨rfl, ht⟩
              rw [hT]
              have k3 := ht.cell (Kept.cell (F := fun _ => True) (Kept.alloc _ _ _) d3 trivial) trivial
              have k1 := ht.cell (Kept.cell (F := fun _ => True) (Kept.alloc _ _ _) e1 trivial) trivial
              have k2 := ht.cell (Kept.cell (F := fun _ => True) (Kept.alloc _ _ _) e2 trivial) trivial
              go_wp2_with fail
              go_ret
              exact ⟨ret_int' hfin.out.symm, ((hk2.then_alloc _).trans ht)⟩
            · have hd : decide (most < (wds.size : Int)) = false := by simpa using hL
              have hfin := Lib.hid (show answerF ⟨key, 3, most, opts, needed, secret⟩ ⟨qq, 0, ⟨#[]⟩, wds⟩ = 0 from (answerF_3 rfl (by unfold spareOk; rw [if_neg (show ¬ (3 : Int) = 1 by decide), if_neg (show ¬ (3 : Int) = 2 by decide)]; exact ⟨rfl, rfl⟩)).trans ((if_neg hno).trans (if_neg hL)))
              clear hZ hno hL
              go_wp2_with fail
              refine (HG.out _ (Kept.alloc _ _ _)).mono ?_
              rintro e wt ⟨rfl, ht⟩
              rw [hT]
              have k3 := ht.cell (Kept.cell (F := fun _ => True) (Kept.alloc _ _ _) d3 trivial) trivial
              have k1 := ht.cell (Kept.cell (F := fun _ => True) (Kept.alloc _ _ _) e1 trivial) trivial
              have k2 := ht.cell (Kept.cell (F := fun _ => True) (Kept.alloc _ _ _) e2 trivial) trivial
              go_wp2_with fail
              go_ret
              exact ⟨ret_int' hfin.out.symm, ((hk2.then_alloc _).trans ht)⟩
      · obtain ⟨z1, z2⟩ := nempty hB (s := opt)
        have hfin := Lib.hid (show answerF ⟨key, 3, most, opts, needed, secret⟩ ⟨qq, 0, opt, wds⟩ = 3 from answerF_spare (by unfold spareOk; rw [if_neg (show ¬ (3 : Int) = 1 by decide), if_neg (show ¬ (3 : Int) = 2 by decide)]; exact fun h => hB h.2))
        go_wp2_with fail
        go_ret
        exact ⟨ret_int' hfin.out.symm, (hk2.then_alloc _)⟩
    · have z1 : (num == 0) = false := by simpa using hA
      have z2 : ((0 : Int) == num) = false := by simpa using fun e => hA e.symm
      have hfin := Lib.hid (show answerF ⟨key, 3, most, opts, needed, secret⟩ ⟨qq, num, opt, wds⟩ = 3 from answerF_spare (by unfold spareOk; rw [if_neg (show ¬ (3 : Int) = 1 by decide), if_neg (show ¬ (3 : Int) = 2 by decide)]; exact fun h => hA h.1))
      go_wp2_with fail
      go_ret
      exact ⟨ret_int' hfin.out.symm, (hk2.then_alloc _)⟩
  have g1 : (kind == 1) = false := by simpa using hn1
  have g2 : (kind == 2) = false := by simpa using hn2
  have g3 : (kind == 3) = false := by simpa using hn3
  by_cases hA : num = 0
  · obtain rfl : num = 0 := hA
    by_cases hB : opt.size = 0
    · obtain rfl : opt = ⟨#[]⟩ := empty_of_size hB
      have hfin := Lib.hid (show answerF ⟨key, kind, most, opts, needed, secret⟩ ⟨qq, 0, ⟨#[]⟩, wds⟩ = 0 from answerF_o hn1 hn2 hn3 (by unfold spareOk; rw [if_neg hn1, if_neg hn2]; exact ⟨rfl, rfl⟩))
      go_wp2_with fail
      go_ret
      exact ⟨ret_int' hfin.out.symm, (hk2.then_alloc _)⟩
    · obtain ⟨z1, z2⟩ := nempty hB (s := opt)
      have hfin := Lib.hid (show answerF ⟨key, kind, most, opts, needed, secret⟩ ⟨qq, 0, opt, wds⟩ = 3 from answerF_spare (by unfold spareOk; rw [if_neg hn1, if_neg hn2]; exact fun h => hB h.2))
      go_wp2_with fail
      go_ret
      exact ⟨ret_int' hfin.out.symm, (hk2.then_alloc _)⟩
  · have z1 : (num == 0) = false := by simpa using hA
    have z2 : ((0 : Int) == num) = false := by simpa using fun e => hA e.symm
    have hfin := Lib.hid (show answerF ⟨key, kind, most, opts, needed, secret⟩ ⟨qq, num, opt, wds⟩ = 3 from answerF_spare (by unfold spareOk; rw [if_neg hn1, if_neg hn2]; exact fun h => hA h.1))
    go_wp2_with fail
    go_ret
    exact ⟨ret_int' hfin.out.symm, (hk2.then_alloc _)⟩

end Go.Proofs.YtdgpminhkiilfaaGreatDoor
