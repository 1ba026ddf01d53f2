/- review.asked, of a score or a choice. -/
import Derived.Test.YthhmgblcccbdaaaGreatDoorMh
import Derived.Test.YthhmgblcccbdaaaGreatDoorAy
import Derived.Test.YthhmgblcccbdaaaGreatDoorBr
import Derived.Test.YthhmgblcccbdaaaGreatDoorRa
import Derived.Test.YthhmgblcccbdaaaGreatDoorAf
namespace Go.Proofs.YthhmgblcccbdaaaGreatDoor
open Go.RowKit

def qstC (x : Qst) (oa : Option Addr) (oc : Nat) : Array Value := #[(.string x.key), (.int .i64 x.kind), (.int .i64 x.most), (.slice oa x.opts.length oc), (.bool x.needed), (.bool x.secret)]
def AskV (er : Int) (o : Option Qst) (e : Ending) (w' : World) : Prop :=
 (er = 0 → ∃ (x : Qst) (oa : Option Addr) (oc : Nat), o = some x ∧ e = .returned (.tuple #[.agg (qstC x oa oc), .int .i64 0]) ∧ x.opts.length ≤ oc ∧ QstSmall x ∧ Sl RStr 1 (fun _ => True) w' oa x.opts.length x.opts) ∧ (er ≠ 0 → e = .returned (.tuple #[.agg #[(.string ⟨#[]⟩), (.int .i64 0), (.int .i64 0), (.slice none 0 0), (.bool false), (.bool false)], .int .i64 er]))
theorem AskV.bad {er : Int} {o : Option Qst} {w' : World} (h : er ≠ 0) : AskV er o (.returned (.tuple #[.agg #[(.string ⟨#[]⟩), (.int .i64 0), (.int .i64 0), (.slice none 0 0), (.bool false), (.bool false)], .int .i64 er])) w' := ⟨fun h0 => absurd h0 h, fun _ => rfl⟩
noncomputable def askedE (s : Set7) (xs : List Rev) (key : ByteArray) (most : Int) : Int := if revsF s xs ≠ 0 then revsF s xs else askE s.sheet key most
set_option maxRecDepth 100000 in
set_option maxHeartbeats 6400000 in
theorem asked1_any (a0 : Option Addr) (l0 c0 : Nat) (a1 : Option Addr) (l1 c1 : Nat) (a2 : Option Addr) (l2 c2 : Nat) (a3 : Option Addr) (l3 c3 : Nat) (a4 : Option Addr) (l4 c4 : Nat) (s : Set7) (al : Option Addr) (ll cl : Nat) (xs : List Rev) (key : ByteArray) (w : World) (his : SetIs (fun _ => True) w a0 l0 a1 l1 a2 l2 a3 l3 a4 l4 s) (hsx : Sl RRev 7 (fun _ => True) w al ll xs) (hl : ll ≤ 1000000) (hlc : ll ≤ cl) (hg : Glob w) :
  Calls Tryz.prog 69 #[.agg #[.slice a0 l0 c0, .slice a1 l1 c1, .slice a2 l2 c2, .slice a3 l3 c3, .slice a4 l4 c4, .int .i64 s.due, .int .i64 s.reply], .slice al ll cl, .string key, .int .i64 1] w fun e w' => AskV (askedE s xs key 10) (s.sheet.find? (isQ key)) e w' ∧ All w w' := by
 have hk1 : All w (w.alloc (.cells #[.slice a0 l0 c0, .slice a1 l1 c1, .slice a2 l2 c2, .slice a3 l3 c3, .slice a4 l4 c4, .int .i64 s.due, .int .i64 s.reply] 31)) := Kept.alloc _ _ _
 have hk2 : All w ((w.alloc (.cells #[.slice a0 l0 c0, .slice a1 l1 c1, .slice a2 l2 c2, .slice a3 l3 c3, .slice a4 l4 c4, .int .i64 s.due, .int .i64 s.reply] 31)).alloc (.cells #[(.string ⟨#[]⟩), (.int .i64 0), (.int .i64 0), (.slice none 0 0), (.bool false), (.bool false)] 95)) := hk1.then_alloc _
 have hb0 := heap_at w (.cells #[.slice a0 l0 c0, .slice a1 l1 c1, .slice a2 l2 c2, .slice a3 l3 c3, .slice a4 l4 c4, .int .i64 s.due, .int .i64 s.reply] 31) _ rfl
 have hb : ((w.alloc (.cells #[.slice a0 l0 c0, .slice a1 l1 c1, .slice a2 l2 c2, .slice a3 l3 c3, .slice a4 l4 c4, .int .i64 s.due, .int .i64 s.reply] 31)).alloc (.cells #[(.string ⟨#[]⟩), (.int .i64 0), (.int .i64 0), (.slice none 0 0), (.bool false), (.bool false)] 95)).heap[w.heap.size]? = some (.cells #[.slice a0 l0 c0, .slice a1 l1 c1, .slice a2 l2 c2, .slice a3 l3 c3, .slice a4 l4 c4, .int .i64 s.due, .int .i64 s.reply] 31) := Kept.heap (Kept.alloc (fun _ => True) _ _) hb0 trivial
 have hq : ((w.alloc (.cells #[.slice a0 l0 c0, .slice a1 l1 c1, .slice a2 l2 c2, .slice a3 l3 c3, .slice a4 l4 c4, .int .i64 s.due, .int .i64 s.reply] 31)).alloc (.cells #[(.string ⟨#[]⟩), (.int .i64 0), (.int .i64 0), (.slice none 0 0), (.bool false), (.bool false)] 95)).heap[(w.heap.size + 1)]? = some (.cells #[(.string ⟨#[]⟩), (.int .i64 0), (.int .i64 0), (.slice none 0 0), (.bool false), (.bool false)] 95) := heap_at (w.alloc (.cells #[.slice a0 l0 c0, .slice a1 l1 c1, .slice a2 l2 c2, .slice a3 l3 c3, .slice a4 l4 c4, .int .i64 s.due, .int .i64 s.reply] 31)) (.cells #[(.string ⟨#[]⟩), (.int .i64 0), (.int .i64 0), (.slice none 0 0), (.bool false), (.bool false)] 95) _ (by simp)
 have HCK := Lib.hid (check_any a0 l0 c0 a1 l1 c1 a2 l2 c2 a3 l3 c3 a4 l4 c4 s al ll cl xs _ (his.keep hk2) (hsx.keep RRev.ok hk2) hl hlc (hg.keep hk2))
 have HPL := Lib.hid (fun (wx : World) (k : All ((w.alloc (.cells #[.slice a0 l0 c0, .slice a1 l1 c1, .slice a2 l2 c2, .slice a3 l3 c3, .slice a4 l4 c4, .int .i64 s.due, .int .i64 s.reply] 31)).alloc (.cells #[(.string ⟨#[]⟩), (.int .i64 0), (.int .i64 0), (.slice none 0 0), (.bool false), (.bool false)] 95)) wx) => place_any a0 l0 c0 s.sheet key wx (his.keep (hk2.trans k)).sheet (by have := his.n0; omega))
 have HSH := Lib.hid his.sheet
 have HK2 := Lib.hid hk2
 have HBL := Lib.hid (fun (wx : World) (k : All ((w.alloc (.cells #[.slice a0 l0 c0, .slice a1 l1 c1, .slice a2 l2 c2, .slice a3 l3 c3, .slice a4 l4 c4, .int .i64 s.due, .int .i64 s.reply] 31)).alloc (.cells #[(.string ⟨#[]⟩), (.int .i64 0), (.int .i64 0), (.slice none 0 0), (.bool false), (.bool false)] 95)) wx) => k.heap hb trivial)
 have HQB := Lib.hid (fun (wx : World) (k : All ((w.alloc (.cells #[.slice a0 l0 c0, .slice a1 l1 c1, .slice a2 l2 c2, .slice a3 l3 c3, .slice a4 l4 c4, .int .i64 s.due, .int .i64 s.reply] 31)).alloc (.cells #[(.string ⟨#[]⟩), (.int .i64 0), (.int .i64 0), (.slice none 0 0), (.bool false), (.bool false)] 95)) wx) => k.heap hq trivial)
 obtain ⟨er, her⟩ : ∃ z, z = askedE s xs key 10 := ⟨_, rfl⟩
 obtain ⟨ef, hef⟩ : ∃ z, z = revsF s xs := ⟨_, rfl⟩
 have HE := Lib.hid (show er = if ef ≠ 0 then ef else askE s.sheet key 10 from by rw [her, askedE, hef])
 have HEF := Lib.hid hef
 rw [← her]
 have e0 := cell_at (i := 0) hb rfl
 have e1 := cell_at (i := 1) hb rfl
 have e2 := cell_at (i := 2) hb rfl
 have e3 := cell_at (i := 3) hb rfl
 have e4 := cell_at (i := 4) hb rfl
 have e5 := cell_at (i := 5) hb rfl
 have e6 := cell_at (i := 6) hb rfl
 clear her hef hb hb0 hq his hsx hg hk1 hk2
 go_enter Tryz.func69, Tryz.ntmps69
 go_wp2_with fail
 refine HCK.out.mono ?_
 rintro e w2 ⟨rfl, hw2⟩
 rw [← HEF.out]
 clear e0 e1 e2 e3 e4 e5 e6
 have hbb := HQB.out _ hw2
 by_cases h0 : ef = 0
 case neg =>
  have hd : (ef != 0) = true := by simpa using h0
  have HE2 := Lib.hid (show er = ef from by rw [HE.out, if_pos h0])
  have H0 := Lib.hid h0
  have hwb := HK2.out.trans hw2
  clear h0 hw2
  have y0 := cell_at (i := 0) hbb rfl
  have y1 := cell_at (i := 1) hbb rfl
  have y2 := cell_at (i := 2) hbb rfl
  have y3 := cell_at (i := 3) hbb rfl
  have y4 := cell_at (i := 4) hbb rfl
  have y5 := cell_at (i := 5) hbb rfl
  have u0 := frozen_at (i := 0) hbb
  have u1 := frozen_at (i := 1) hbb
  have u2 := frozen_at (i := 2) hbb
  have u3 := frozen_at (i := 3) hbb
  have u4 := frozen_at (i := 4) hbb
  have u5 := frozen_at (i := 5) hbb
  have hfin := heap_setCell_at _ (w.heap.size + 1) 5 (.bool false) _ _ _ (heap_setCell_at _ (w.heap.size + 1) 4 (.bool false) _ _ _ (heap_setCell_at _ (w.heap.size + 1) 3 (.slice none 0 0) _ _ _ (heap_setCell_at _ (w.heap.size + 1) 2 (.int .i64 0) _ _ _ (heap_setCell_at _ (w.heap.size + 1) 1 (.int .i64 0) _ _ _ (heap_setCell_at _ (w.heap.size + 1) 0 (.string ⟨#[]⟩) _ _ _ (hbb))))))
  simp only [List.setIfInBounds_toArray, List.set_cons_zero, List.set_cons_succ] at hfin
  have q0 := cell_at (i := 0) hfin rfl
  have q1 := cell_at (i := 1) hfin rfl
  have q2 := cell_at (i := 2) hfin rfl
  have q3 := cell_at (i := 3) hfin rfl
  have q4 := cell_at (i := 4) hfin rfl
  have q5 := cell_at (i := 5) hfin rfl
  have hkf := Lib.hid (((((((hwb).then_setNew ⟨(w.heap.size + 1), 0, none⟩ (.string ⟨#[]⟩) (Nat.le_succ _)).then_setNew ⟨(w.heap.size + 1), 1, none⟩ (.int .i64 0) (Nat.le_succ _)).then_setNew ⟨(w.heap.size + 1), 2, none⟩ (.int .i64 0) (Nat.le_succ _)).then_setNew ⟨(w.heap.size + 1), 3, none⟩ (.slice none 0 0) (Nat.le_succ _)).then_setNew ⟨(w.heap.size + 1), 4, none⟩ (.bool false) (Nat.le_succ _)).then_setNew ⟨(w.heap.size + 1), 5, none⟩ (.bool false) (Nat.le_succ _))
  clear hfin hbb hwb
  go_wp2_with fail
  refine bodyPost_ret (v := .tuple #[.agg #[(.string ⟨#[]⟩), (.int .i64 0), (.int .i64 0), (.slice none 0 0), (.bool false), (.bool false)], .int .i64 ef]) ?_ rfl ⟨by rw [HE2.out]; exact AskV.bad H0.out, hkf.out⟩
  simp [results, Tryz.results69, go_sem, q0, q1, q2, q3, q4, q5]
 case pos =>
  subst h0
  have hd : ((0 : Int) != 0) = false := rfl
  have HE1 := Lib.hid (show er = askE s.sheet key 10 from by rw [HE.out, if_neg (by simp)])
  have hb2 := HBL.out _ hw2
  have e0 := cell_at (i := 0) hb2 rfl
  clear hb2 hbb
  go_wp2_with fail
  refine (HPL.out _ hw2).mono ?_
  rintro e w3 ⟨rfl, hw3'⟩
  have hw3 := hw2.trans hw3'
  have hbb := HQB.out _ hw3
  have hwb := HK2.out.trans hw3
  clear e0 hw3' hw2
  rcases findG_find (p := isQ key) (xs := s.sheet) (k := 0) with ⟨h1, h2⟩ | ⟨i, q, h1, h2, h3⟩
  ·have HE2 := Lib.hid (show er = 8 from by rw [HE1.out, askE, h1])
   rw [h2]
   clear h1 h2 hw3
   have y0 := cell_at (i := 0) hbb rfl
   have y1 := cell_at (i := 1) hbb rfl
   have y2 := cell_at (i := 2) hbb rfl
   have y3 := cell_at (i := 3) hbb rfl
   have y4 := cell_at (i := 4) hbb rfl
   have y5 := cell_at (i := 5) hbb rfl
   have u0 := frozen_at (i := 0) hbb
   have u1 := frozen_at (i := 1) hbb
   have u2 := frozen_at (i := 2) hbb
   have u3 := frozen_at (i := 3) hbb
   have u4 := frozen_at (i := 4) hbb
   have u5 := frozen_at (i := 5) hbb
   have hfin := heap_setCell_at _ (w.heap.size + 1) 5 (.bool false) _ _ _ (heap_setCell_at _ (w.heap.size + 1) 4 (.bool false) _ _ _ (heap_setCell_at _ (w.heap.size + 1) 3 (.slice none 0 0) _ _ _ (heap_setCell_at _ (w.heap.size + 1) 2 (.int .i64 0) _ _ _ (heap_setCell_at _ (w.heap.size + 1) 1 (.int .i64 0) _ _ _ (heap_setCell_at _ (w.heap.size + 1) 0 (.string ⟨#[]⟩) _ _ _ (hbb))))))
   simp only [List.setIfInBounds_toArray, List.set_cons_zero, List.set_cons_succ] at hfin
   have q0 := cell_at (i := 0) hfin rfl
   have q1 := cell_at (i := 1) hfin rfl
   have q2 := cell_at (i := 2) hfin rfl
   have q3 := cell_at (i := 3) hfin rfl
   have q4 := cell_at (i := 4) hfin rfl
   have q5 := cell_at (i := 5) hfin rfl
   have hkf := Lib.hid (((((((hwb).then_setNew ⟨(w.heap.size + 1), 0, none⟩ (.string ⟨#[]⟩) (Nat.le_succ _)).then_setNew ⟨(w.heap.size + 1), 1, none⟩ (.int .i64 0) (Nat.le_succ _)).then_setNew ⟨(w.heap.size + 1), 2, none⟩ (.int .i64 0) (Nat.le_succ _)).then_setNew ⟨(w.heap.size + 1), 3, none⟩ (.slice none 0 0) (Nat.le_succ _)).then_setNew ⟨(w.heap.size + 1), 4, none⟩ (.bool false) (Nat.le_succ _)).then_setNew ⟨(w.heap.size + 1), 5, none⟩ (.bool false) (Nat.le_succ _))
   clear hfin hbb hwb
   go_wp2_with fail
   refine bodyPost_ret (v := .tuple #[.agg #[(.string ⟨#[]⟩), (.int .i64 0), (.int .i64 0), (.slice none 0 0), (.bool false), (.bool false)], .int .i64 8]) ?_ rfl ⟨by rw [HE2.out]; exact AskV.bad (by decide), hkf.out⟩
   simp [results, Tryz.results69, go_sem, q0, q1, q2, q3, q4, q5]
  ·rw [h2]
   have H1 := Lib.hid h1
   have hil : i < l0 := by
    have := (List.getElem?_eq_some_iff.1 h3).1
    have := HSH.out.len
    omega
   obtain ⟨b, off, x, oa, oc, ha, -, c0', c1', c2', c3', c4', c5', hoc, hsm, hso, hx, -⟩ := HSH.out.atQst hil
   have hxq : x = q := by rw [h3] at hx; injection hx with hx; exact hx.symm
   subst hxq
   have HSO := Lib.hid hso
   have HSM := Lib.hid hsm
   have HOC := Lib.hid hoc
   have HE2 := Lib.hid (show er = askE s.sheet key 10 from HE1.out)
   have d0 := hwb.cell c0' trivial
   have d1 := hwb.cell c1' trivial
   have d2 := hwb.cell c2' trivial
   have d3 := hwb.cell c3' trivial
   have d4 := hwb.cell c4' trivial
   have d5 := hwb.cell c5' trivial
   have hb2 := HBL.out _ hw3
   rw [ha] at hb2
   have e0 := cell_at (i := 0) hb2 rfl
   simp only [Nat.zero_add]
   have hdi : decide ((i : Int) < 0) = false := by simp
   have hx3 := heap_at w3 (.cells #[(.string x.key), (.int .i64 x.kind), (.int .i64 x.most), (.slice oa x.opts.length oc), (.bool x.needed), (.bool x.secret)] 95) _ rfl
   have hwc : All w (w3.alloc (.cells #[(.string x.key), (.int .i64 x.kind), (.int .i64 x.most), (.slice oa x.opts.length oc), (.bool x.needed), (.bool x.secret)] 95)) := hwb.then_alloc _
   have hbc : (w3.alloc (.cells #[(.string x.key), (.int .i64 x.kind), (.int .i64 x.most), (.slice oa x.opts.length oc), (.bool x.needed), (.bool x.secret)] 95)).heap[(w.heap.size + 1)]? = some (.cells #[(.string ⟨#[]⟩), (.int .i64 0), (.int .i64 0), (.slice none 0 0), (.bool false), (.bool false)] 95) := Kept.heap (Kept.alloc (fun _ => True) _ _) hbb trivial
   clear h2 h3 hx hb2 hoc hsm hso c0' c1' c2' c3' c4' c5' ha hbb hwb hw3
   go_upto_region 8 with fail
   clear e0 d0 d1 d2 d3 d4 d5
   have v0 := cell_at (i := 0) hx3 rfl
   have v1 := cell_at (i := 1) hx3 rfl
   have v2 := cell_at (i := 2) hx3 rfl
   have v3 := cell_at (i := 3) hx3 rfl
   have v4 := cell_at (i := 4) hx3 rfl
   have v5 := cell_at (i := 5) hx3 rfl
   have HE3 := Lib.hid (show er = if x.kind = 1 ∧ x.most ≤ 10 then 0 else 10 from by rw [HE2.out, askE, h1]; rfl)
   clear h1 hx3
   by_cases hk : x.kind = 1
   case neg =>
    have hd1 : (x.kind == 1) = false := by simpa using hk
    have HE4 := Lib.hid (show er = 10 from by rw [HE3.out, if_neg (fun h => hk h.1)])
    clear hk
    have y0 := cell_at (i := 0) hbc rfl
    have y1 := cell_at (i := 1) hbc rfl
    have y2 := cell_at (i := 2) hbc rfl
    have y3 := cell_at (i := 3) hbc rfl
    have y4 := cell_at (i := 4) hbc rfl
    have y5 := cell_at (i := 5) hbc rfl
    have u0 := frozen_at (i := 0) hbc
    have u1 := frozen_at (i := 1) hbc
    have u2 := frozen_at (i := 2) hbc
    have u3 := frozen_at (i := 3) hbc
    have u4 := frozen_at (i := 4) hbc
    have u5 := frozen_at (i := 5) hbc
    have hfin := heap_setCell_at _ (w.heap.size + 1) 5 (.bool false) _ _ _ (heap_setCell_at _ (w.heap.size + 1) 4 (.bool false) _ _ _ (heap_setCell_at _ (w.heap.size + 1) 3 (.slice none 0 0) _ _ _ (heap_setCell_at _ (w.heap.size + 1) 2 (.int .i64 0) _ _ _ (heap_setCell_at _ (w.heap.size + 1) 1 (.int .i64 0) _ _ _ (heap_setCell_at _ (w.heap.size + 1) 0 (.string ⟨#[]⟩) _ _ _ (hbc))))))
    simp only [List.setIfInBounds_toArray, List.set_cons_zero, List.set_cons_succ] at hfin
    have q0 := cell_at (i := 0) hfin rfl
    have q1 := cell_at (i := 1) hfin rfl
    have q2 := cell_at (i := 2) hfin rfl
    have q3 := cell_at (i := 3) hfin rfl
    have q4 := cell_at (i := 4) hfin rfl
    have q5 := cell_at (i := 5) hfin rfl
    have hkf := Lib.hid (((((((hwc).then_setNew ⟨(w.heap.size + 1), 0, none⟩ (.string ⟨#[]⟩) (Nat.le_succ _)).then_setNew ⟨(w.heap.size + 1), 1, none⟩ (.int .i64 0) (Nat.le_succ _)).then_setNew ⟨(w.heap.size + 1), 2, none⟩ (.int .i64 0) (Nat.le_succ _)).then_setNew ⟨(w.heap.size + 1), 3, none⟩ (.slice none 0 0) (Nat.le_succ _)).then_setNew ⟨(w.heap.size + 1), 4, none⟩ (.bool false) (Nat.le_succ _)).then_setNew ⟨(w.heap.size + 1), 5, none⟩ (.bool false) (Nat.le_succ _))
    clear hfin hbc hwc
    go_wp2_with fail
    refine bodyPost_ret (v := .tuple #[.agg #[(.string ⟨#[]⟩), (.int .i64 0), (.int .i64 0), (.slice none 0 0), (.bool false), (.bool false)], .int .i64 10]) ?_ rfl ⟨by rw [HE4.out]; exact AskV.bad (by decide), hkf.out⟩
    simp [results, Tryz.results69, go_sem, q0, q1, q2, q3, q4, q5]
   case pos =>
    by_cases hm : x.most ≤ 10
    case neg =>
     have hd1 : (x.kind == 1) = true := by simpa using hk
     have hd2 : decide (x.most ≤ 10) = false := decide_eq_false hm
     have HE4 := Lib.hid (show er = 10 from by rw [HE3.out, if_neg (fun h => hm h.2)])
     clear hk hm
     have y0 := cell_at (i := 0) hbc rfl
     have y1 := cell_at (i := 1) hbc rfl
     have y2 := cell_at (i := 2) hbc rfl
     have y3 := cell_at (i := 3) hbc rfl
     have y4 := cell_at (i := 4) hbc rfl
     have y5 := cell_at (i := 5) hbc rfl
     have u0 := frozen_at (i := 0) hbc
     have u1 := frozen_at (i := 1) hbc
     have u2 := frozen_at (i := 2) hbc
     have u3 := frozen_at (i := 3) hbc
     have u4 := frozen_at (i := 4) hbc
     have u5 := frozen_at (i := 5) hbc
     have hfin := heap_setCell_at _ (w.heap.size + 1) 5 (.bool false) _ _ _ (heap_setCell_at _ (w.heap.size + 1) 4 (.bool false) _ _ _ (heap_setCell_at _ (w.heap.size + 1) 3 (.slice none 0 0) _ _ _ (heap_setCell_at _ (w.heap.size + 1) 2 (.int .i64 0) _ _ _ (heap_setCell_at _ (w.heap.size + 1) 1 (.int .i64 0) _ _ _ (heap_setCell_at _ (w.heap.size + 1) 0 (.string ⟨#[]⟩) _ _ _ (hbc))))))
     simp only [List.setIfInBounds_toArray, List.set_cons_zero, List.set_cons_succ] at hfin
     have q0 := cell_at (i := 0) hfin rfl
     have q1 := cell_at (i := 1) hfin rfl
     have q2 := cell_at (i := 2) hfin rfl
     have q3 := cell_at (i := 3) hfin rfl
     have q4 := cell_at (i := 4) hfin rfl
     have q5 := cell_at (i := 5) hfin rfl
     have hkf := Lib.hid (((((((hwc).then_setNew ⟨(w.heap.size + 1), 0, none⟩ (.string ⟨#[]⟩) (Nat.le_succ _)).then_setNew ⟨(w.heap.size + 1), 1, none⟩ (.int .i64 0) (Nat.le_succ _)).then_setNew ⟨(w.heap.size + 1), 2, none⟩ (.int .i64 0) (Nat.le_succ _)).then_setNew ⟨(w.heap.size + 1), 3, none⟩ (.slice none 0 0) (Nat.le_succ _)).then_setNew ⟨(w.heap.size + 1), 4, none⟩ (.bool false) (Nat.le_succ _)).then_setNew ⟨(w.heap.size + 1), 5, none⟩ (.bool false) (Nat.le_succ _))
     clear hfin hbc hwc
     go_wp2_with fail
     refine bodyPost_ret (v := .tuple #[.agg #[(.string ⟨#[]⟩), (.int .i64 0), (.int .i64 0), (.slice none 0 0), (.bool false), (.bool false)], .int .i64 10]) ?_ rfl ⟨by rw [HE4.out]; exact AskV.bad (by decide), hkf.out⟩
     simp [results, Tryz.results69, go_sem, q0, q1, q2, q3, q4, q5]
    case pos =>
     have hd1 : (x.kind == 1) = true := by simpa using hk
     have hd2 : decide (x.most ≤ 10) = true := decide_eq_true hm
     have HE4 := Lib.hid (show er = 0 from by rw [HE3.out, if_pos ⟨hk, hm⟩])
     clear hk hm
     have y0 := cell_at (i := 0) hbc rfl
     have y1 := cell_at (i := 1) hbc rfl
     have y2 := cell_at (i := 2) hbc rfl
     have y3 := cell_at (i := 3) hbc rfl
     have y4 := cell_at (i := 4) hbc rfl
     have y5 := cell_at (i := 5) hbc rfl
     have u0 := frozen_at (i := 0) hbc
     have u1 := frozen_at (i := 1) hbc
     have u2 := frozen_at (i := 2) hbc
     have u3 := frozen_at (i := 3) hbc
     have u4 := frozen_at (i := 4) hbc
     have u5 := frozen_at (i := 5) hbc
     have hfin := heap_setCell_at _ (w.heap.size + 1) 5 (.bool x.secret) _ _ _ (heap_setCell_at _ (w.heap.size + 1) 4 (.bool x.needed) _ _ _ (heap_setCell_at _ (w.heap.size + 1) 3 (.slice oa x.opts.length oc) _ _ _ (heap_setCell_at _ (w.heap.size + 1) 2 (.int .i64 x.most) _ _ _ (heap_setCell_at _ (w.heap.size + 1) 1 (.int .i64 x.kind) _ _ _ (heap_setCell_at _ (w.heap.size + 1) 0 (.string x.key) _ _ _ (hbc))))))
     simp only [List.setIfInBounds_toArray, List.set_cons_zero, List.set_cons_succ] at hfin
     have q0 := cell_at (i := 0) hfin rfl
     have q1 := cell_at (i := 1) hfin rfl
     have q2 := cell_at (i := 2) hfin rfl
     have q3 := cell_at (i := 3) hfin rfl
     have q4 := cell_at (i := 4) hfin rfl
     have q5 := cell_at (i := 5) hfin rfl
     have hkf := Lib.hid (((((((hwc).then_setNew ⟨(w.heap.size + 1), 0, none⟩ (.string x.key) (Nat.le_succ _)).then_setNew ⟨(w.heap.size + 1), 1, none⟩ (.int .i64 x.kind) (Nat.le_succ _)).then_setNew ⟨(w.heap.size + 1), 2, none⟩ (.int .i64 x.most) (Nat.le_succ _)).then_setNew ⟨(w.heap.size + 1), 3, none⟩ (.slice oa x.opts.length oc) (Nat.le_succ _)).then_setNew ⟨(w.heap.size + 1), 4, none⟩ (.bool x.needed) (Nat.le_succ _)).then_setNew ⟨(w.heap.size + 1), 5, none⟩ (.bool x.secret) (Nat.le_succ _))
     clear hfin hbc hwc
     go_wp2_with fail
     refine bodyPost_ret (v := .tuple #[.agg #[(.string x.key), (.int .i64 x.kind), (.int .i64 x.most), (.slice oa x.opts.length oc), (.bool x.needed), (.bool x.secret)], .int .i64 0]) ?_ rfl ⟨by rw [HE4.out]; exact ⟨fun _ => ⟨x, oa, oc, H1.out, rfl, HOC.out, HSM.out, HSO.out.keep RStr.ok hkf.out⟩, fun h => absurd rfl h⟩, hkf.out⟩
     simp [results, Tryz.results69, go_sem, q0, q1, q2, q3, q4, q5]

set_option maxRecDepth 100000 in
set_option maxHeartbeats 6400000 in
theorem asked2_any (a0 : Option Addr) (l0 c0 : Nat) (a1 : Option Addr) (l1 c1 : Nat) (a2 : Option Addr) (l2 c2 : Nat) (a3 : Option Addr) (l3 c3 : Nat) (a4 : Option Addr) (l4 c4 : Nat) (s : Set7) (al : Option Addr) (ll cl : Nat) (xs : List Rev) (key : ByteArray) (w : World) (his : SetIs (fun _ => True) w a0 l0 a1 l1 a2 l2 a3 l3 a4 l4 s) (hsx : Sl RRev 7 (fun _ => True) w al ll xs) (hl : ll ≤ 1000000) (hlc : ll ≤ cl) (hg : Glob w) :
  Calls Tryz.prog 69 #[.agg #[.slice a0 l0 c0, .slice a1 l1 c1, .slice a2 l2 c2, .slice a3 l3 c3, .slice a4 l4 c4, .int .i64 s.due, .int .i64 s.reply], .slice al ll cl, .string key, .int .i64 2] w fun e w' => AskV (askedE s xs key 0) (s.sheet.find? (isQ key)) e w' ∧ All w w' := by
 have hk1 : All w (w.alloc (.cells #[.slice a0 l0 c0, .slice a1 l1 c1, .slice a2 l2 c2, .slice a3 l3 c3, .slice a4 l4 c4, .int .i64 s.due, .int .i64 s.reply] 31)) := Kept.alloc _ _ _
 have hk2 : All w ((w.alloc (.cells #[.slice a0 l0 c0, .slice a1 l1 c1, .slice a2 l2 c2, .slice a3 l3 c3, .slice a4 l4 c4, .int .i64 s.due, .int .i64 s.reply] 31)).alloc (.cells #[(.string ⟨#[]⟩), (.int .i64 0), (.int .i64 0), (.slice none 0 0), (.bool false), (.bool false)] 95)) := hk1.then_alloc _
 have hb0 := heap_at w (.cells #[.slice a0 l0 c0, .slice a1 l1 c1, .slice a2 l2 c2, .slice a3 l3 c3, .slice a4 l4 c4, .int .i64 s.due, .int .i64 s.reply] 31) _ rfl
 have hb : ((w.alloc (.cells #[.slice a0 l0 c0, .slice a1 l1 c1, .slice a2 l2 c2, .slice a3 l3 c3, .slice a4 l4 c4, .int .i64 s.due, .int .i64 s.reply] 31)).alloc (.cells #[(.string ⟨#[]⟩), (.int .i64 0), (.int .i64 0), (.slice none 0 0), (.bool false), (.bool false)] 95)).heap[w.heap.size]? = some (.cells #[.slice a0 l0 c0, .slice a1 l1 c1, .slice a2 l2 c2, .slice a3 l3 c3, .slice a4 l4 c4, .int .i64 s.due, .int .i64 s.reply] 31) := Kept.heap (Kept.alloc (fun _ => True) _ _) hb0 trivial
 have hq : ((w.alloc (.cells #[.slice a0 l0 c0, .slice a1 l1 c1, .slice a2 l2 c2, .slice a3 l3 c3, .slice a4 l4 c4, .int .i64 s.due, .int .i64 s.reply] 31)).alloc (.cells #[(.string ⟨#[]⟩), (.int .i64 0), (.int .i64 0), (.slice none 0 0), (.bool false), (.bool false)] 95)).heap[(w.heap.size + 1)]? = some (.cells #[(.string ⟨#[]⟩), (.int .i64 0), (.int .i64 0), (.slice none 0 0), (.bool false), (.bool false)] 95) := heap_at (w.alloc (.cells #[.slice a0 l0 c0, .slice a1 l1 c1, .slice a2 l2 c2, .slice a3 l3 c3, .slice a4 l4 c4, .int .i64 s.due, .int .i64 s.reply] 31)) (.cells #[(.string ⟨#[]⟩), (.int .i64 0), (.int .i64 0), (.slice none 0 0), (.bool false), (.bool false)] 95) _ (by simp)
 have HCK := Lib.hid (check_any a0 l0 c0 a1 l1 c1 a2 l2 c2 a3 l3 c3 a4 l4 c4 s al ll cl xs _ (his.keep hk2) (hsx.keep RRev.ok hk2) hl hlc (hg.keep hk2))
 have HPL := Lib.hid (fun (wx : World) (k : All ((w.alloc (.cells #[.slice a0 l0 c0, .slice a1 l1 c1, .slice a2 l2 c2, .slice a3 l3 c3, .slice a4 l4 c4, .int .i64 s.due, .int .i64 s.reply] 31)).alloc (.cells #[(.string ⟨#[]⟩), (.int .i64 0), (.int .i64 0), (.slice none 0 0), (.bool false), (.bool false)] 95)) wx) => place_any a0 l0 c0 s.sheet key wx (his.keep (hk2.trans k)).sheet (by have := his.n0; omega))
 have HSH := Lib.hid his.sheet
 have HK2 := Lib.hid hk2
 have HBL := Lib.hid (fun (wx : World) (k : All ((w.alloc (.cells #[.slice a0 l0 c0, .slice a1 l1 c1, .slice a2 l2 c2, .slice a3 l3 c3, .slice a4 l4 c4, .int .i64 s.due, .int .i64 s.reply] 31)).alloc (.cells #[(.string ⟨#[]⟩), (.int .i64 0), (.int .i64 0), (.slice none 0 0), (.bool false), (.bool false)] 95)) wx) => k.heap hb trivial)
 have HQB := Lib.hid (fun (wx : World) (k : All ((w.alloc (.cells #[.slice a0 l0 c0, .slice a1 l1 c1, .slice a2 l2 c2, .slice a3 l3 c3, .slice a4 l4 c4, .int .i64 s.due, .int .i64 s.reply] 31)).alloc (.cells #[(.string ⟨#[]⟩), (.int .i64 0), (.int .i64 0), (.slice none 0 0), (.bool false), (.bool false)] 95)) wx) => k.heap hq trivial)
 obtain ⟨er, her⟩ : ∃ z, z = askedE s xs key 0 := ⟨_, rfl⟩
 obtain ⟨ef, hef⟩ : ∃ z, z = revsF s xs := ⟨_, rfl⟩
 have HE := Lib.hid (show er = if ef ≠ 0 then ef else askE s.sheet key 0 from by rw [her, askedE, hef])
 have HEF := Lib.hid hef
 rw [← her]
 have e0 := cell_at (i := 0) hb rfl
 have e1 := cell_at (i := 1) hb rfl
 have e2 := cell_at (i := 2) hb rfl
 have e3 := cell_at (i := 3) hb rfl
 have e4 := cell_at (i := 4) hb rfl
 have e5 := cell_at (i := 5) hb rfl
 have e6 := cell_at (i := 6) hb rfl
 clear her hef hb hb0 hq his hsx hg hk1 hk2
 go_enter Tryz.func69, Tryz.ntmps69
 go_wp2_with fail
 refine HCK.out.mono ?_
 rintro e w2 ⟨rfl, hw2⟩
 rw [← HEF.out]
 clear e0 e1 e2 e3 e4 e5 e6
 have hbb := HQB.out _ hw2
 by_cases h0 : ef = 0
 case neg =>
  have hd : (ef != 0) = true := by simpa using h0
  have HE2 := Lib.hid (show er = ef from by rw [HE.out, if_pos h0])
  have H0 := Lib.hid h0
  have hwb := HK2.out.trans hw2
  clear h0 hw2
  have y0 := cell_at (i := 0) hbb rfl
  have y1 := cell_at (i := 1) hbb rfl
  have y2 := cell_at (i := 2) hbb rfl
  have y3 := cell_at (i := 3) hbb rfl
  have y4 := cell_at (i := 4) hbb rfl
  have y5 := cell_at (i := 5) hbb rfl
  have u0 := frozen_at (i := 0) hbb
  have u1 := frozen_at (i := 1) hbb
  have u2 := frozen_at (i := 2) hbb
  have u3 := frozen_at (i := 3) hbb
  have u4 := frozen_at (i := 4) hbb
  have u5 := frozen_at (i := 5) hbb
  have hfin := heap_setCell_at _ (w.heap.size + 1) 5 (.bool false) _ _ _ (heap_setCell_at _ (w.heap.size + 1) 4 (.bool false) _ _ _ (heap_setCell_at _ (w.heap.size + 1) 3 (.slice none 0 0) _ _ _ (heap_setCell_at _ (w.heap.size + 1) 2 (.int .i64 0) _ _ _ (heap_setCell_at _ (w.heap.size + 1) 1 (.int .i64 0) _ _ _ (heap_setCell_at _ (w.heap.size + 1) 0 (.string ⟨#[]⟩) _ _ _ (hbb))))))
  simp only [List.setIfInBounds_toArray, List.set_cons_zero, List.set_cons_succ] at hfin
  have q0 := cell_at (i := 0) hfin rfl
  have q1 := cell_at (i := 1) hfin rfl
  have q2 := cell_at (i := 2) hfin rfl
  have q3 := cell_at (i := 3) hfin rfl
  have q4 := cell_at (i := 4) hfin rfl
  have q5 := cell_at (i := 5) hfin rfl
  have hkf := Lib.hid (((((((hwb).then_setNew ⟨(w.heap.size + 1), 0, none⟩ (.string ⟨#[]⟩) (Nat.le_succ _)).then_setNew ⟨(w.heap.size + 1), 1, none⟩ (.int .i64 0) (Nat.le_succ _)).then_setNew ⟨(w.heap.size + 1), 2, none⟩ (.int .i64 0) (Nat.le_succ _)).then_setNew ⟨(w.heap.size + 1), 3, none⟩ (.slice none 0 0) (Nat.le_succ _)).then_setNew ⟨(w.heap.size + 1), 4, none⟩ (.bool false) (Nat.le_succ _)).then_setNew ⟨(w.heap.size + 1), 5, none⟩ (.bool false) (Nat.le_succ _))
  clear hfin hbb hwb
  go_wp2_with fail
  refine bodyPost_ret (v := .tuple #[.agg #[(.string ⟨#[]⟩), (.int .i64 0), (.int .i64 0), (.slice none 0 0), (.bool false), (.bool false)], .int .i64 ef]) ?_ rfl ⟨by rw [HE2.out]; exact AskV.bad H0.out, hkf.out⟩
  simp [results, Tryz.results69, go_sem, q0, q1, q2, q3, q4, q5]
 case pos =>
  subst h0
  have hd : ((0 : Int) != 0) = false := rfl
  have HE1 := Lib.hid (show er = askE s.sheet key 0 from by rw [HE.out, if_neg (by simp)])
  have hb2 := HBL.out _ hw2
  have e0 := cell_at (i := 0) hb2 rfl
  clear hb2 hbb
  go_wp2_with fail
  refine (HPL.out _ hw2).mono ?_
  rintro e w3 ⟨rfl, hw3'⟩
  have hw3 := hw2.trans hw3'
  have hbb := HQB.out _ hw3
  have hwb := HK2.out.trans hw3
  clear e0 hw3' hw2
  rcases findG_find (p := isQ key) (xs := s.sheet) (k := 0) with ⟨h1, h2⟩ | ⟨i, q, h1, h2, h3⟩
  ·have HE2 := Lib.hid (show er = 8 from by rw [HE1.out, askE, h1])
   rw [h2]
   clear h1 h2 hw3
   have y0 := cell_at (i := 0) hbb rfl
   have y1 := cell_at (i := 1) hbb rfl
   have y2 := cell_at (i := 2) hbb rfl
   have y3 := cell_at (i := 3) hbb rfl
   have y4 := cell_at (i := 4) hbb rfl
   have y5 := cell_at (i := 5) hbb rfl
   have u0 := frozen_at (i := 0) hbb
   have u1 := frozen_at (i := 1) hbb
   have u2 := frozen_at (i := 2) hbb
   have u3 := frozen_at (i := 3) hbb
   have u4 := frozen_at (i := 4) hbb
   have u5 := frozen_at (i := 5) hbb
   have hfin := heap_setCell_at _ (w.heap.size + 1) 5 (.bool false) _ _ _ (heap_setCell_at _ (w.heap.size + 1) 4 (.bool false) _ _ _ (heap_setCell_at _ (w.heap.size + 1) 3 (.slice none 0 0) _ _ _ (heap_setCell_at _ (w.heap.size + 1) 2 (.int .i64 0) _ _ _ (heap_setCell_at _ (w.heap.size + 1) 1 (.int .i64 0) _ _ _ (heap_setCell_at _ (w.heap.size + 1) 0 (.string ⟨#[]⟩) _ _ _ (hbb))))))
   simp only [List.setIfInBounds_toArray, List.set_cons_zero, List.set_cons_succ] at hfin
   have q0 := cell_at (i := 0) hfin rfl
   have q1 := cell_at (i := 1) hfin rfl
   have q2 := cell_at (i := 2) hfin rfl
   have q3 := cell_at (i := 3) hfin rfl
   have q4 := cell_at (i := 4) hfin rfl
   have q5 := cell_at (i := 5) hfin rfl
   have hkf := Lib.hid (((((((hwb).then_setNew ⟨(w.heap.size + 1), 0, none⟩ (.string ⟨#[]⟩) (Nat.le_succ _)).then_setNew ⟨(w.heap.size + 1), 1, none⟩ (.int .i64 0) (Nat.le_succ _)).then_setNew ⟨(w.heap.size + 1), 2, none⟩ (.int .i64 0) (Nat.le_succ _)).then_setNew ⟨(w.heap.size + 1), 3, none⟩ (.slice none 0 0) (Nat.le_succ _)).then_setNew ⟨(w.heap.size + 1), 4, none⟩ (.bool false) (Nat.le_succ _)).then_setNew ⟨(w.heap.size + 1), 5, none⟩ (.bool false) (Nat.le_succ _))
   clear hfin hbb hwb
   go_wp2_with fail
   refine bodyPost_ret (v := .tuple #[.agg #[(.string ⟨#[]⟩), (.int .i64 0), (.int .i64 0), (.slice none 0 0), (.bool false), (.bool false)], .int .i64 8]) ?_ rfl ⟨by rw [HE2.out]; exact AskV.bad (by decide), hkf.out⟩
   simp [results, Tryz.results69, go_sem, q0, q1, q2, q3, q4, q5]
  ·rw [h2]
   have H1 := Lib.hid h1
   have hil : i < l0 := by
    have := (List.getElem?_eq_some_iff.1 h3).1
    have := HSH.out.len
    omega
   obtain ⟨b, off, x, oa, oc, ha, -, c0', c1', c2', c3', c4', c5', hoc, hsm, hso, hx, -⟩ := HSH.out.atQst hil
   have hxq : x = q := by rw [h3] at hx; injection hx with hx; exact hx.symm
   subst hxq
   have HSO := Lib.hid hso
   have HSM := Lib.hid hsm
   have HOC := Lib.hid hoc
   have HE2 := Lib.hid (show er = askE s.sheet key 0 from HE1.out)
   have d0 := hwb.cell c0' trivial
   have d1 := hwb.cell c1' trivial
   have d2 := hwb.cell c2' trivial
   have d3 := hwb.cell c3' trivial
   have d4 := hwb.cell c4' trivial
   have d5 := hwb.cell c5' trivial
   have hb2 := HBL.out _ hw3
   rw [ha] at hb2
   have e0 := cell_at (i := 0) hb2 rfl
   simp only [Nat.zero_add]
   have hdi : decide ((i : Int) < 0) = false := by simp
   have hx3 := heap_at w3 (.cells #[(.string x.key), (.int .i64 x.kind), (.int .i64 x.most), (.slice oa x.opts.length oc), (.bool x.needed), (.bool x.secret)] 95) _ rfl
   have hwc : All w (w3.alloc (.cells #[(.string x.key), (.int .i64 x.kind), (.int .i64 x.most), (.slice oa x.opts.length oc), (.bool x.needed), (.bool x.secret)] 95)) := hwb.then_alloc _
   have hbc : (w3.alloc (.cells #[(.string x.key), (.int .i64 x.kind), (.int .i64 x.most), (.slice oa x.opts.length oc), (.bool x.needed), (.bool x.secret)] 95)).heap[(w.heap.size + 1)]? = some (.cells #[(.string ⟨#[]⟩), (.int .i64 0), (.int .i64 0), (.slice none 0 0), (.bool false), (.bool false)] 95) := Kept.heap (Kept.alloc (fun _ => True) _ _) hbb trivial
   clear h2 h3 hx hb2 hoc hsm hso c0' c1' c2' c3' c4' c5' ha hbb hwb hw3
   go_upto_region 8 with fail
   clear e0 d0 d1 d2 d3 d4 d5
   have v0 := cell_at (i := 0) hx3 rfl
   have v1 := cell_at (i := 1) hx3 rfl
   have v2 := cell_at (i := 2) hx3 rfl
   have v3 := cell_at (i := 3) hx3 rfl
   have v4 := cell_at (i := 4) hx3 rfl
   have v5 := cell_at (i := 5) hx3 rfl
   have HE3 := Lib.hid (show er = if x.kind = 2 then 0 else 10 from by rw [HE2.out, askE, h1]; rfl)
   clear h1 hx3
   by_cases hk : x.kind = 2
   case neg =>
    have hd1 : (x.kind == 2) = false := by simpa using hk
    have HE4 := Lib.hid (show er = 10 from by rw [HE3.out, if_neg hk])
    clear hk
    have y0 := cell_at (i := 0) hbc rfl
    have y1 := cell_at (i := 1) hbc rfl
    have y2 := cell_at (i := 2) hbc rfl
    have y3 := cell_at (i := 3) hbc rfl
    have y4 := cell_at (i := 4) hbc rfl
    have y5 := cell_at (i := 5) hbc rfl
    have u0 := frozen_at (i := 0) hbc
    have u1 := frozen_at (i := 1) hbc
    have u2 := frozen_at (i := 2) hbc
    have u3 := frozen_at (i := 3) hbc
    have u4 := frozen_at (i := 4) hbc
    have u5 := frozen_at (i := 5) hbc
    have hfin := heap_setCell_at _ (w.heap.size + 1) 5 (.bool false) _ _ _ (heap_setCell_at _ (w.heap.size + 1) 4 (.bool false) _ _ _ (heap_setCell_at _ (w.heap.size + 1) 3 (.slice none 0 0) _ _ _ (heap_setCell_at _ (w.heap.size + 1) 2 (.int .i64 0) _ _ _ (heap_setCell_at _ (w.heap.size + 1) 1 (.int .i64 0) _ _ _ (heap_setCell_at _ (w.heap.size + 1) 0 (.string ⟨#[]⟩) _ _ _ (hbc))))))
    simp only [List.setIfInBounds_toArray, List.set_cons_zero, List.set_cons_succ] at hfin
    have q0 := cell_at (i := 0) hfin rfl
    have q1 := cell_at (i := 1) hfin rfl
    have q2 := cell_at (i := 2) hfin rfl
    have q3 := cell_at (i := 3) hfin rfl
    have q4 := cell_at (i := 4) hfin rfl
    have q5 := cell_at (i := 5) hfin rfl
    have hkf := Lib.hid (((((((hwc).then_setNew ⟨(w.heap.size + 1), 0, none⟩ (.string ⟨#[]⟩) (Nat.le_succ _)).then_setNew ⟨(w.heap.size + 1), 1, none⟩ (.int .i64 0) (Nat.le_succ _)).then_setNew ⟨(w.heap.size + 1), 2, none⟩ (.int .i64 0) (Nat.le_succ _)).then_setNew ⟨(w.heap.size + 1), 3, none⟩ (.slice none 0 0) (Nat.le_succ _)).then_setNew ⟨(w.heap.size + 1), 4, none⟩ (.bool false) (Nat.le_succ _)).then_setNew ⟨(w.heap.size + 1), 5, none⟩ (.bool false) (Nat.le_succ _))
    clear hfin hbc hwc
    go_wp2_with fail
    refine bodyPost_ret (v := .tuple #[.agg #[(.string ⟨#[]⟩), (.int .i64 0), (.int .i64 0), (.slice none 0 0), (.bool false), (.bool false)], .int .i64 10]) ?_ rfl ⟨by rw [HE4.out]; exact AskV.bad (by decide), hkf.out⟩
    simp [results, Tryz.results69, go_sem, q0, q1, q2, q3, q4, q5]
   case pos =>
    have hd1 : (x.kind == 2) = true := by simpa using hk
    have HE4 := Lib.hid (show er = 0 from by rw [HE3.out, if_pos hk])
    clear hk
    have y0 := cell_at (i := 0) hbc rfl
    have y1 := cell_at (i := 1) hbc rfl
    have y2 := cell_at (i := 2) hbc rfl
    have y3 := cell_at (i := 3) hbc rfl
    have y4 := cell_at (i := 4) hbc rfl
    have y5 := cell_at (i := 5) hbc rfl
    have u0 := frozen_at (i := 0) hbc
    have u1 := frozen_at (i := 1) hbc
    have u2 := frozen_at (i := 2) hbc
    have u3 := frozen_at (i := 3) hbc
    have u4 := frozen_at (i := 4) hbc
    have u5 := frozen_at (i := 5) hbc
    have hfin := heap_setCell_at _ (w.heap.size + 1) 5 (.bool x.secret) _ _ _ (heap_setCell_at _ (w.heap.size + 1) 4 (.bool x.needed) _ _ _ (heap_setCell_at _ (w.heap.size + 1) 3 (.slice oa x.opts.length oc) _ _ _ (heap_setCell_at _ (w.heap.size + 1) 2 (.int .i64 x.most) _ _ _ (heap_setCell_at _ (w.heap.size + 1) 1 (.int .i64 x.kind) _ _ _ (heap_setCell_at _ (w.heap.size + 1) 0 (.string x.key) _ _ _ (hbc))))))
    simp only [List.setIfInBounds_toArray, List.set_cons_zero, List.set_cons_succ] at hfin
    have q0 := cell_at (i := 0) hfin rfl
    have q1 := cell_at (i := 1) hfin rfl
    have q2 := cell_at (i := 2) hfin rfl
    have q3 := cell_at (i := 3) hfin rfl
    have q4 := cell_at (i := 4) hfin rfl
    have q5 := cell_at (i := 5) hfin rfl
    have hkf := Lib.hid (((((((hwc).then_setNew ⟨(w.heap.size + 1), 0, none⟩ (.string x.key) (Nat.le_succ _)).then_setNew ⟨(w.heap.size + 1), 1, none⟩ (.int .i64 x.kind) (Nat.le_succ _)).then_setNew ⟨(w.heap.size + 1), 2, none⟩ (.int .i64 x.most) (Nat.le_succ _)).then_setNew ⟨(w.heap.size + 1), 3, none⟩ (.slice oa x.opts.length oc) (Nat.le_succ _)).then_setNew ⟨(w.heap.size + 1), 4, none⟩ (.bool x.needed) (Nat.le_succ _)).then_setNew ⟨(w.heap.size + 1), 5, none⟩ (.bool x.secret) (Nat.le_succ _))
    clear hfin hbc hwc
    go_wp2_with fail
    refine bodyPost_ret (v := .tuple #[.agg #[(.string x.key), (.int .i64 x.kind), (.int .i64 x.most), (.slice oa x.opts.length oc), (.bool x.needed), (.bool x.secret)], .int .i64 0]) ?_ rfl ⟨by rw [HE4.out]; exact ⟨fun _ => ⟨x, oa, oc, H1.out, rfl, HOC.out, HSM.out, HSO.out.keep RStr.ok hkf.out⟩, fun h => absurd rfl h⟩, hkf.out⟩
    simp [results, Tryz.results69, go_sem, q0, q1, q2, q3, q4, q5]

end Go.Proofs.YthhmgblcccbdaaaGreatDoor

/- What Marks gives, plain: one answer of a question in each review that counts. -/
namespace Go.Proofs.YthhmgblcccbdaaaGreatDoor
open Go.RowKit

theorem revF_answers {s : Set7} {no : Nat} {prev : Option Rev} {r : Rev} (h : revF s no prev r = 0) : answersF s.sheet r.answers = 0 := by
 apply Classical.byContradiction
 intro hn
 unfold revF at h
 (repeat' split at h) <;> first | omega | exact hn h | (rename_i h1 _; exact h1 hn) | (rename_i h1; exact h1 hn)
theorem revsG_answers {s : Set7} : ∀ (l : List Rev) (no : Nat) (prev : Option Rev), revsG s no prev l = 0 → ∀ r ∈ l, answersF s.sheet r.answers = 0
 | [], _, _, _, _, hr => nomatch hr
 | r :: l, no, prev, h, x, hx => by
  rw [revsG_cons] at h
  by_cases h0 : revF s no prev r ≠ 0
  ·rw [if_pos h0] at h; exact absurd h h0
  ·rw [if_neg h0] at h
   rcases List.mem_cons.1 hx with rfl | hx
   ·exact revF_answers (Classical.not_not.1 h0)
   ·exact revsG_answers l _ _ h x hx
theorem revsF_answers {s : Set7} {xs : List Rev} (h : revsF s xs = 0) : ∀ r ∈ xs, answersF s.sheet r.answers = 0 := by
 unfold revsF at h
 split at h
 ·rename_i h1; exact absurd h h1
 split at h
 ·omega
 exact revsG_answers xs _ _ h
theorem answersG_above {sheet : List Qst} : ∀ (l : List Ans4) (last : Int), answersG sheet last l = 0 → ∀ a ∈ l, last < findG (isQ a.question) 0 sheet
 | [], _, _, _, ha => nomatch ha
 | a :: l, last, h, x, hx => by
  cases hn : sheet.find? (isQ a.question) with
  | none => rw [answersG_none hn] at h; omega
  | some q =>
   rw [answersG_some hn] at h
   split at h
   ·omega
   ·rename_i h1
    split at h
    ·rename_i h2; exact absurd h h2
    ·rcases List.mem_cons.1 hx with rfl | hx
     ·omega
     ·have := answersG_above l _ h x hx
      omega
theorem answersG_once {sheet : List Qst} (key : ByteArray) : ∀ (l : List Ans4) (last : Int), answersG sheet last l = 0 → l.filter (isA key) = (l.find? (isA key)).toList
 | [], _, _ => rfl
 | a :: l, last, h => by
  cases hn : sheet.find? (isQ a.question) with
  | none => rw [answersG_none hn] at h; omega
  | some q =>
   rw [answersG_some hn] at h
   split at h
   ·omega
   ·split at h
    ·rename_i h2; exact absurd h h2
    ·cases hk : isA key a with
     | true =>
      have he : l.filter (isA key) = [] := by
       rw [List.filter_eq_nil_iff]
       intro b hb hbk
       have h1 := answersG_above l _ h b hb
       have e1 : b.question = key := of_decide_eq_true hbk
       have e2 : a.question = key := of_decide_eq_true hk
       rw [e1, e2] at h1
       omega
      rw [List.filter_cons, if_pos hk, he, List.find?_cons, hk]; rfl
     | false => rw [List.filter_cons, hk, List.find?_cons, hk]; exact answersG_once key l _ h
theorem answersF_once {sheet : List Qst} {l : List Ans4} (h : answersF sheet l = 0) (key : ByteArray) : l.filter (isA key) = (l.find? (isA key)).toList := by
 unfold answersF at h
 split at h
 ·omega
 ·exact answersG_once key l _ h
theorem lastO_key2 {ts : List Raw} {p : K2} {tm : Int} {dn : Bool} {z : Raw} (h : lastO ts p tm dn = some z) : z.1.person = p.2 := by
 rw [lastO] at h
 have h1 := List.mem_of_find?_eq_some h
 rw [List.mem_reverse, bookF, List.mem_filter] at h1
 have h2 := of_decide_eq_true h1.2
 rw [← h2]
def markZ (key : ByteArray) (z : Raw) : List Mark3 := (z.1.answers.find? (isA key)).toList.map (fun a => ⟨z.1.paper, z.1.person, a.number⟩)
def markL (key : ByteArray) (zs : List Raw) : List Mark3 := zs.flatMap (markZ key)
def markY (key : ByteArray) (p q : ByteArray) (ls : List Ans4) : List Mark3 := (ls.filter (isA key)).map (fun a => ⟨p, q, a.number⟩)
def markP (ts : List Raw) (tm : Int) (key : ByteArray) (y : Pair2) : List Mark3 := markY key y.paper y.person (((lastO ts (y.paper, y.person) tm true).getD raw0).1.answers)
def markR (ts : List Raw) (tm : Int) (key : ByteArray) (ps : List Pair2) : List Mark3 := ps.flatMap (markP ts tm key)
theorem markR_eq {sheet : List Qst} {ts : List Raw} (tm : Int) (key : ByteArray) (hall : ∀ z ∈ ts, answersF sheet z.1.answers = 0) : ∀ ps : List Pair2, markR ts tm key ps = markL key (doneL ts tm ps)
 | [] => rfl
 | y :: ps => by
  have ih := markR_eq tm key hall ps
  have e1 : markR ts tm key (y :: ps) = markP ts tm key y ++ markR ts tm key ps := by simp [markR]
  rw [e1, ih]
  cases ho : lastO ts (y.paper, y.person) tm true with
  | none =>
   have e2 : doneL ts tm (y :: ps) = doneL ts tm ps := by simp [doneL, ho]
   have e3 : markP ts tm key y = [] := by rw [markP, ho]; rfl
   rw [e2, e3]; rfl
  | some z =>
   have e2 : doneL ts tm (y :: ps) = z :: doneL ts tm ps := by simp [doneL, ho]
   have e3 : markP ts tm key y = markZ key z := by
    rw [markP, ho, Option.getD_some, markY, answersF_once (hall z (lastO_mem ho)) key, markZ, lastO_key ho, lastO_key2 ho]
   rw [e2, e3, markL, markL, List.flatMap_cons]
theorem markL_snoc {key : ByteArray} {zs : List Raw} {k : Nat} {z : Raw} (h : zs.take (k + 1) = zs.take k ++ [z]) : markL key (zs.take (k + 1)) = markL key (zs.take k) ++ markZ key z := by
 rw [h, markL, List.flatMap_append, markL]; simp
theorem markZ_len (key : ByteArray) (z : Raw) : (markZ key z).length ≤ 1 := by
 rw [markZ, List.length_map]
 cases z.1.answers.find? (isA key) <;> simp
theorem markL_len (key : ByteArray) (zs : List Raw) : (markL key zs).length ≤ zs.length := by
 induction zs with
 | nil => simp [markL]
 | cons z zs ih =>
  have := markZ_len key z
  have e : markL key (z :: zs) = markZ key z ++ markL key zs := by simp [markL]
  rw [e, List.length_append, List.length_cons]
  omega
theorem markR_snoc {ts : List Raw} {tm : Int} {key : ByteArray} {ps : List Pair2} {k : Nat} {y : Pair2} (h : ps.take (k + 1) = ps.take k ++ [y]) : markR ts tm key (ps.take (k + 1)) = markR ts tm key (ps.take k) ++ markP ts tm key y := by
 rw [h, markR, List.flatMap_append, markR]; simp
theorem markY_snoc {key p q : ByteArray} {ls : List Ans4} {k : Nat} {a : Ans4} (h : ls.take (k + 1) = ls.take k ++ [a]) : markY key p q (ls.take (k + 1)) = if a.question = key then markY key p q (ls.take k) ++ [⟨p, q, a.number⟩] else markY key p q (ls.take k) := by
 rw [h, markY, List.filter_append, List.map_append]
 by_cases h1 : a.question = key
 ·rw [if_pos h1]; simp [markY, isA, h1]
 ·rw [if_neg h1]; simp [markY, isA, h1]
theorem markY_len (key p q : ByteArray) (ls : List Ans4) : (markY key p q ls).length ≤ ls.length := by
 rw [markY, List.length_map]; exact List.length_filter_le _ _
end Go.Proofs.YthhmgblcccbdaaaGreatDoor

/- Marks. -/
namespace Go.Proofs.YthhmgblcccbdaaaGreatDoor
open Go.RowKit

noncomputable def markE (s : Set7) (xs : List Rev) (key : ByteArray) (tm : Int) : Int := if askedE s xs key 10 ≠ 0 then askedE s xs key 10 else if 0 ≤ tm ∧ tm < 5761440 then 0 else 1
def MarkV (er : Int) (xs : List Mark3) (e : Ending) (w' : World) : Prop :=
 (er = 0 → ∃ (p : Option Addr) (c : Nat), e = .returned (.tuple #[.slice p xs.length c, .int .i64 0]) ∧ Sl RMark 3 (fun _ => True) w' p xs.length xs) ∧ (er ≠ 0 → e = .returned (.tuple #[.slice none 0 0, .int .i64 er]))
theorem MarkV.bad {er : Int} {xs : List Mark3} {w' : World} (h : er ≠ 0) : MarkV er xs (.returned (.tuple #[.slice none 0 0, .int .i64 er])) w' := ⟨fun h0 => absurd h0 h, fun _ => rfl⟩
theorem markSl {B : Nat} {w : World} {v : Value} {xs : List Mark3} (h : Acc RMark 3 85 (fun _ => False) B w v xs) : ∃ (p : Option Addr) (c : Nat), v = .slice p xs.length c ∧ Sl RMark 3 (fun _ => True) w p xs.length xs := by
 obtain ⟨p, c, hv, h1⟩ := h.sl RMark.ok (by decide) (G := fun _ => True) (fun _ h => h.elim) (fun _ _ => trivial)
 exact ⟨p, c, hv, h1⟩
theorem doneL_mem {ts : List Raw} {tm : Int} {ps : List Pair2} {z : Raw} (h : z ∈ doneL ts tm ps) : z ∈ ts := by
 obtain ⟨p, -, hp⟩ := List.mem_filterMap.1 h
 exact lastO_mem hp
theorem AskV.gen {er : Int} {o : Option Qst} {e : Ending} {w' : World} (h : AskV er o e w') : ∃ c0 c1 c2 p n c c4 c5, e = .returned (.tuple #[.agg #[.string c0, .int .i64 c1, .int .i64 c2, .slice p n c, .bool c4, .bool c5], .int .i64 er]) := by
 by_cases h0 : er = 0
 ·obtain ⟨x, oa, oc, -, he, -⟩ := h.1 h0
  exact ⟨_, _, _, _, _, _, _, _, by rw [he, h0, qstC]⟩
 ·exact ⟨_, _, _, _, _, _, _, _, h.2 h0⟩
set_option maxRecDepth 100000 in
set_option maxHeartbeats 12800000 in
theorem marks_any (a0 : Option Addr) (l0 c0 : Nat) (a1 : Option Addr) (l1 c1 : Nat) (a2 : Option Addr) (l2 c2 : Nat) (a3 : Option Addr) (l3 c3 : Nat) (a4 : Option Addr) (l4 c4 : Nat) (s : Set7) (al : Option Addr) (ll cl : Nat) (xs : List Rev) (ts : List Raw) (key : ByteArray) (tm : Int) (w : World) (his : SetIs (fun _ => True) w a0 l0 a1 l1 a2 l2 a3 l3 a4 l4 s) (hsx : Sl RRev 7 (fun _ => True) w al ll xs) (hst : Sl RRaw 7 (fun _ => True) w al ll ts) (hsm : ∀ z ∈ ts, RevSmall z.1) (hans : ∀ z ∈ ts, Sl RAns 4 (fun _ => True) w z.2.1 z.1.answers.length z.1.answers) (hl : ll ≤ 1000000) (hlc : ll ≤ cl) (hg : Glob w) :
  Calls Tryz.prog 32 #[.agg #[.slice a0 l0 c0, .slice a1 l1 c1, .slice a2 l2 c2, .slice a3 l3 c3, .slice a4 l4 c4, .int .i64 s.due, .int .i64 s.reply], .slice al ll cl, .string key, .int .i64 tm] w fun e w' => MarkV (markE s xs key tm) (markL key (doneL ts tm s.pairs)) e w' ∧ All w w' := by
 have hk1 : All w (w.alloc (.cells #[.slice a0 l0 c0, .slice a1 l1 c1, .slice a2 l2 c2, .slice a3 l3 c3, .slice a4 l4 c4, .int .i64 s.due, .int .i64 s.reply] 31)) := Kept.alloc _ _ _
 have hb := heap_at w (.cells #[.slice a0 l0 c0, .slice a1 l1 c1, .slice a2 l2 c2, .slice a3 l3 c3, .slice a4 l4 c4, .int .i64 s.due, .int .i64 s.reply] 31) _ rfl
 obtain ⟨bb, hbb⟩ : ∃ b, b = w.heap.size := ⟨_, rfl⟩
 have HBB := Lib.hid hbb
 rw [← hbb] at hb
 have HBL := Lib.hid (fun (wx : World) (k : All (w.alloc (.cells #[.slice a0 l0 c0, .slice a1 l1 c1, .slice a2 l2 c2, .slice a3 l3 c3, .slice a4 l4 c4, .int .i64 s.due, .int .i64 s.reply] 31)) wx) => k.heap hb trivial)
 have HAK := Lib.hid (asked1_any a0 l0 c0 a1 l1 c1 a2 l2 c2 a3 l3 c3 a4 l4 c4 s al ll cl xs key _ (his.keep hk1) (hsx.keep RRev.ok hk1) hl hlc (hg.keep hk1))
 have HBO := Lib.hid (fun (wx : World) (k : All (w.alloc (.cells #[.slice a0 l0 c0, .slice a1 l1 c1, .slice a2 l2 c2, .slice a3 l3 c3, .slice a4 l4 c4, .int .i64 s.due, .int .i64 s.reply] 31)) wx) => bookOf_any a0 l0 c0 a1 l1 c1 a2 l2 c2 a3 l3 c3 a4 l4 c4 s al ll cl ts wx (hst.keep RRaw.ok (hk1.trans k)) hl)
 have HIS := Lib.hid (fun (wx : World) (k : All (w.alloc (.cells #[.slice a0 l0 c0, .slice a1 l1 c1, .slice a2 l2 c2, .slice a3 l3 c3, .slice a4 l4 c4, .int .i64 s.due, .int .i64 s.reply] 31)) wx) => his.keep (hk1.trans k))
 have HAN := Lib.hid (fun (wx : World) (k : All (w.alloc (.cells #[.slice a0 l0 c0, .slice a1 l1 c1, .slice a2 l2 c2, .slice a3 l3 c3, .slice a4 l4 c4, .int .i64 s.due, .int .i64 s.reply] 31)) wx) (z : Raw) (hz : z ∈ ts) => (hans z hz).keep RAns.ok (hk1.trans k))
 have HTL : ts.length ≤ 1000000 := by have := hst.len; omega
 have HSM := Lib.hid hsm
 have HN2 := Lib.hid his.pairs.len
 have hn2 := his.n2
 obtain ⟨er, her⟩ : ∃ z, z = markE s xs key tm := ⟨_, rfl⟩
 obtain ⟨ef, hef⟩ : ∃ z, z = askedE s xs key 10 := ⟨_, rfl⟩
 have HE := Lib.hid (show er = if ef ≠ 0 then ef else if 0 ≤ tm ∧ tm < 5761440 then 0 else 1 from by rw [her, markE, hef])
 rw [← her]
 rw [← hef] at HAK
 obtain ⟨zs, hzs⟩ : ∃ z, z = doneL ts tm s.pairs := ⟨_, rfl⟩
 have HZS := Lib.hid hzs
 have HZL := Lib.hid (show zs.length ≤ s.pairs.length from by rw [hzs]; exact doneL_len _ _ _)
 have HZM := Lib.hid (fun (z : Raw) (hz : z ∈ zs) => (show z ∈ ts from doneL_mem (by rw [hzs] at hz; exact hz)))
 rw [← hzs]
 have HK1 := Lib.hid hk1
 have e0 := cell_at (i := 0) hb rfl
 have e1 := cell_at (i := 1) hb rfl
 have e2 := cell_at (i := 2) hb rfl
 have e3 := cell_at (i := 3) hb rfl
 have e4 := cell_at (i := 4) hb rfl
 have e5 := cell_at (i := 5) hb rfl
 have e6 := cell_at (i := 6) hb rfl
 clear her hef hzs hbb hb his hsx hst hsm hans hg hk1
 go_enter Tryz.func32, Tryz.ntmps32
 go_upto_region 1 with fail
 simp only [← HBB.out]
 generalize w.alloc (.cells #[.slice a0 l0 c0, .slice a1 l1 c1, .slice a2 l2 c2, .slice a3 l3 c3, .slice a4 l4 c4, .int .i64 s.due, .int .i64 s.reply] 31) = w1 at *
 go_wp2_with fail
 refine HAK.out.mono ?_
 rintro e w2 ⟨hv, hw2'⟩
 obtain ⟨g0, g1, g2, gp, gn, gc, g4, g5, rfl⟩ := hv.gen
 have hw2 : All w1 (w2.alloc (.cells #[.string g0, .int .i64 g1, .int .i64 g2, .slice gp gn gc, .bool g4, .bool g5] 95)) := hw2'.then_alloc _
 clear hw2' hv e0 e1 e2 e3 e4 e5 e6
 go_upto_region 2 with fail
 generalize w2.alloc (.cells #[.string g0, .int .i64 g1, .int .i64 g2, .slice gp gn gc, .bool g4, .bool g5] 95) = w2 at *
 by_cases h0 : ef = 0
 case neg =>
  have hd : (ef != 0) = true := by simpa using h0
  have HE2 := Lib.hid (show er = ef from by rw [HE.out, if_pos h0])
  have H0 := Lib.hid h0
  clear h0
  go_wp2_with fail
  go_ret2
  exact ⟨by rw [HE2.out]; exact MarkV.bad H0.out, HK1.out.trans hw2⟩
 case pos =>
  subst h0
  have hd : ((0 : Int) != 0) = false := rfl
  have HE1 := Lib.hid (show er = if 0 ≤ tm ∧ tm < 5761440 then 0 else 1 from by rw [HE.out, if_neg (by simp)])
  go_wp2_with fail
  refine (isMoment_any tm _).mono ?_
  rintro e w' ⟨rfl, rfl⟩
  by_cases hm : 0 ≤ tm ∧ tm < 5761440
  case neg =>
   rw [decide_eq_false hm]
   have HE2 := Lib.hid (show er = 1 from by rw [HE1.out, if_neg hm])
   clear hm
   go_wp2_with fail
   go_ret2
   exact ⟨by rw [HE2.out]; exact MarkV.bad (by decide), HK1.out.trans hw2⟩
  case pos =>
   rw [decide_eq_true hm]
   have HE2 := Lib.hid (show er = 0 from by rw [HE1.out, if_pos hm])
   have hb2 := HBL.out _ hw2
   have e0 := cell_at (i := 0) hb2 rfl
   have e1 := cell_at (i := 1) hb2 rfl
   have e2 := cell_at (i := 2) hb2 rfl
   have e3 := cell_at (i := 3) hb2 rfl
   have e4 := cell_at (i := 4) hb2 rfl
   have e5 := cell_at (i := 5) hb2 rfl
   have e6 := cell_at (i := 6) hb2 rfl
   clear hb2 hm
   go_wp2_with fail
   refine (HBO.out _ hw2).mono ?_
   rintro e w4 ⟨⟨kb, rfl, hbk⟩, hw4⟩
   have hq4 := hw2.trans hw4
   have HV := Lib.hid (bookValid_any a0 l0 c0 a1 l1 c1 a2 l2 c2 a3 l3 c3 a4 l4 c4 s kb ts HTL HSM.out tm w4 hbk (HIS.out _ hq4).pairs (by omega))
   rw [← HZS.out] at HV
   clear e0 e1 e2 e3 e4 e5 e6 hbk hw2 hw4
   go_wp2_with fail
   refine HV.out.mono ?_
   rintro e w5 ⟨⟨v5, rfl, hacc⟩, hw5⟩
   obtain ⟨vp, vc, rfl, hsv⟩ := hacc.sl RRaw.ok (by decide) (G := fun _ => True) (fun _ h => h.elim) (fun _ _ => trivial)
   have hq5 := hq4.trans hw5
   have HSV := Lib.hid (fun (wx : World) (k : All w5 wx) => hsv.keep RRaw.ok k)
   obtain ⟨nz, hnz⟩ : ∃ n, n = zs.length := ⟨_, rfl⟩
   have HNZ := Lib.hid hnz
   have hnz2 : nz ≤ 1000000 := by have := HZL.out; have := HN2.out; omega
   rw [← hnz] at HSV ⊢
   clear hacc hsv hnz hq4 hw5
   go_wp2_with fail
   go_loopw [12, 36] (fun o i wr => ∃ k : Nat, k ≤ nz ∧ i = .int .i64 k ∧ Acc RMark 3 85 (fun _ => False) w5.heap.size wr o (markL key (zs.take k)) ∧ All w5 wr) (fun _ i _ => nz - (intOf i).toNat)
   case atStart => exact ⟨0, Nat.zero_le _, rfl, Acc.nil _ _ _ _ _ _, Kept.refl _ _⟩
   case round =>
    obtain ⟨k, hk, rfl, hacc, hwr⟩ := hrel
    obtain ⟨wo, rfl⟩ : ∃ wo : World, wo = wr := ⟨_, rfl⟩
    by_cases hlt : k < nz
    ·obtain ⟨b, off, z, ha, -, r0, r1, r2, r3, r4, r5, r6, hzsm, hzk, htk⟩ := (HSV.out _ hwr).atRaw hlt
     subst ha
     have HY := Lib.hid (markL_snoc (key := key) htk)
     have hzt := HZM.out z (List.mem_of_getElem? hzk)
     have hzs1 : z.1.paper.size ≤ 1000000 := hzsm.1
     have hzs2 : z.1.person.size ≤ 1000000 := hzsm.2.1
     have hal : z.1.answers.length ≤ 1000000 := Nat.le_trans hzsm.2.2.2 (by decide)
     have hmk : (markL key (zs.take k)).length ≤ k := Nat.le_trans (markL_len _ _) (List.length_take_le _ _)
     have hko : All wo (wo.alloc (.cells #[.int .i64 z.1.no, .int .i64 z.1.tm, .string z.1.paper, .string z.1.person, .string z.1.by_, .bool z.1.done, .slice z.2.1 z.1.answers.length z.2.2] 45)) := Kept.alloc _ _ _
     have hblk := heap_at wo (.cells #[.int .i64 z.1.no, .int .i64 z.1.tm, .string z.1.paper, .string z.1.person, .string z.1.by_, .bool z.1.done, .slice z.2.1 z.1.answers.length z.2.2] 45) _ rfl
     obtain ⟨rb, hrb⟩ : ∃ q, q = wo.heap.size := ⟨_, rfl⟩
     have HRB := Lib.hid hrb
     rw [← hrb] at hblk
     have hac1 := hacc.keepAll RMark.ok hko
     have hwa := hq5.trans (hwr.trans hko)
     have hwl := hwr.trans hko
     obtain ⟨oa, oc, rfl, hoc⟩ := hac1.form
     clear htk hacc hwr hko hrb hzsm hzk
     go_upto_region 10 with fail
     simp only [← HRB.out]
     generalize wo.alloc (.cells #[.int .i64 z.1.no, .int .i64 z.1.tm, .string z.1.paper, .string z.1.person, .string z.1.by_, .bool z.1.done, .slice z.2.1 z.1.answers.length z.2.2] 45) = wa at *
     clear r0 r1 r2 r3 r4 r5 r6
     have HRX := Lib.hid (fun (wx : World) (k : All wa wx) => k.heap hblk trivial)
     have u6 := cell_at (i := 6) hblk rfl
     have HAT := Lib.hid (answerTo_any z.2.1 z.1.answers.length z.2.2 z.1.answers key wa (HAN.out _ hwa z hzt) hal)
     clear hblk hzt
     go_wp2_with fail
     refine HAT.out.mono ?_
     rintro e w3 ⟨rfl, hw3⟩
     obtain ⟨g, hg⟩ : ∃ g, g = getA z.1.answers key := ⟨_, rfl⟩
     have HG := Lib.hid hg
     rw [← hg]
     obtain ⟨o, ho⟩ : ∃ o, o = z.1.answers.find? (isA key) := ⟨_, rfl⟩
     have HO := Lib.hid ho
     rw [← ho]
     have hk4 : All w3 (w3.alloc (.cells #[.string g.question, .int .i64 g.number, .string g.option, .string g.words] 97)) := Kept.alloc _ _ _
     have hs4 := heap_at w3 (.cells #[.string g.question, .int .i64 g.number, .string g.option, .string g.words] 97) _ rfl
     obtain ⟨ab, hab⟩ : ∃ q, q = w3.heap.size := ⟨_, rfl⟩
     have HAB := Lib.hid hab
     rw [← hab] at hs4
     have hab4 := hw3.trans hk4
     have hac4 := hac1.keepAll RMark.ok hab4
     have hwq := hwl.trans hab4
     have hwq1 := hwa.trans hab4
     have hr4 := HRX.out _ hab4
     clear hg ho hab u6 hw3 hk4 hac1 hwl hwa hab4
     go_upto_region 11 with fail
     simp only [← HAB.out]
     generalize w3.alloc (.cells #[.string g.question, .int .i64 g.number, .string g.option, .string g.words] 97) = wb at *
     have HAX := Lib.hid (fun (wx : World) (k : All wb wx) => k.heap hs4 trivial)
     have u0 := cell_at (i := 0) hr4 rfl
     have u1 := cell_at (i := 1) hr4 rfl
     have u2 := cell_at (i := 2) hr4 rfl
     have u3 := cell_at (i := 3) hr4 rfl
     have u4 := cell_at (i := 4) hr4 rfl
     have u5 := cell_at (i := 5) hr4 rfl
     have u6 := cell_at (i := 6) hr4 rfl
     have s1 := cell_at (i := 1) hs4 rfl
     have hzb := hwq.size
     clear hr4 hs4
     cases o with
     | none =>
      have HY2 := Lib.hid (show markL key (zs.take (k + 1)) = markL key (zs.take k) from by rw [HY.out, markZ, ← HO.out]; simp)
      have hfin := Lib.hid hac4
      clear hac4 s1 u0 u1 u2 u3 u4 u5 u6
      go_wp2_with fail
      go_roundw
      case rel => exact ⟨k + 1, by omega, by go_num, by rw [HY2.out]; exact hfin.out, hwq⟩
      case measure => simp [intOf]; omega
     | some a =>
      have HGA := Lib.hid (show g = a from by rw [HG.out, getA, ← HO.out]; rfl)
      have HY2 := Lib.hid (show markL key (zs.take (k + 1)) = markL key (zs.take k) ++ [⟨z.1.paper, z.1.person, g.number⟩] from by rw [HY.out, markZ, ← HO.out, HGA.out]; rfl)
      go_wp2_with fail
      go_region_law (first | (go_simp; go_at_call 71; refine (pairOf_any z.1.no z.1.tm z.1.paper z.1.person z.1.by_ z.1.done z.2.1 z.1.answers.length z.2.2 _).mono ?_; rintro e w7 ⟨rfl, hw7⟩; have hp7 : All wb w7 := Kept.trans ((by repeat (first | exact Kept.refl _ _ | refine Kept.then_drew ?_ | refine Kept.then_drewN ?_ _ | refine Kept.then_alloc ?_ _)) : All wb _) hw7; have hac7 := hac4.keepAll RMark.ok hp7; have t1 := cell_at (i := 1) (HAX.out w7 hp7) rfl; have hz7 := hp7.size) | (refine op_append1 RMark.ok _ _ _ 74 rfl w5.heap.size 85 (.agg #[.string ⟨#[]⟩, .string ⟨#[]⟩, .int .i64 0]) 3 40 Tryz.underlying74 (by kernel_rfl) rfl (by decide) (fun _ => False) _ (markL key (zs.take k)) rfl (hac7.keepAll RMark.ok (Kept.alloc _ _ _)) ⟨_, 0, none⟩ 1 [.string z.1.paper, .string z.1.person, .int .i64 g.number] rfl rfl (World.news_of_block (cs := #[.string z.1.paper, .string z.1.person, .int .i64 g.number]) (heap_alloc_new w7 _)) (by simp [Value.oneCell']) ⟨z.1.paper, z.1.person, g.number⟩ ⟨rfl, hzs1, hzs2⟩ (by omega) (by decide) (by simp; omega) ?_; intro p9 c9 w9 hacc9 hg9 _; have hk9 := Lib.hid (((hwq.trans hp7).then_alloc (.cells #[.string z.1.paper, .string z.1.person, .int .i64 g.number] 85)).grown hg9 (fun j hj => Or.inl (hac7.lt j hj).1))))
      all_goals
       have hfin := Lib.hid hacc9
       clear hacc9 hg9 hac7 hac4 s1 t1 u0 u1 u2 u3 u4 u5 u6
       go_wp2_with fail
       go_roundw
       case rel => exact ⟨k + 1, by omega, by go_num, by rw [HY2.out]; exact hfin.out, hk9.out⟩
       case measure => simp [intOf]; omega
    ·have hdk : decide ((k : Int) < (nz : Int)) = false := by simp; omega
     have HE3 := Lib.hid (show zs.take k = zs from List.take_of_length_le (by have := HNZ.out; omega))
     rw [HE3.out] at hacc
     obtain ⟨pa, pc, rfl, hsl⟩ := markSl hacc
     have HSL := Lib.hid hsl
     clear hacc hsl
     go_wp2_with fail
     go_ret2
     exact ⟨by rw [HE2.out]; exact ⟨fun _ => ⟨pa, pc, rfl, HSL.out⟩, fun h => absurd rfl h⟩, HK1.out.trans (hq5.trans hwr)⟩
end Go.Proofs.YthhmgblcccbdaaaGreatDoor

/- MarksOf. -/
namespace Go.Proofs.YthhmgblcccbdaaaGreatDoor
open Go.RowKit

set_option maxRecDepth 100000 in
set_option maxHeartbeats 12800000 in
theorem marksOf_any (a0 : Option Addr) (l0 c0 : Nat) (a1 : Option Addr) (l1 c1 : Nat) (a2 : Option Addr) (l2 c2 : Nat) (a3 : Option Addr) (l3 c3 : Nat) (a4 : Option Addr) (l4 c4 : Nat) (s : Set7) (al : Option Addr) (ll cl : Nat) (ts : List Raw) (key : ByteArray) (tm : Int) (w : World) (his : SetIs (fun _ => True) w a0 l0 a1 l1 a2 l2 a3 l3 a4 l4 s) (hst : Sl RRaw 7 (fun _ => True) w al ll ts) (hsm : ∀ z ∈ ts, RevSmall z.1) (hans : ∀ z ∈ ts, Sl RAns 4 (fun _ => True) w z.2.1 z.1.answers.length z.1.answers) (hall : ∀ z ∈ ts, answersF s.sheet z.1.answers = 0) (hl : ll ≤ 1000000) (hl2 : l2 ≤ 100000) :
  Calls Tryz.prog 39 #[.agg #[.slice a0 l0 c0, .slice a1 l1 c1, .slice a2 l2 c2, .slice a3 l3 c3, .slice a4 l4 c4, .int .i64 s.due, .int .i64 s.reply], .slice al ll cl, .string key, .int .i64 tm] w fun e w' => (∃ (p : Option Addr) (c : Nat), e = .returned (.slice p (markL key (doneL ts tm s.pairs)).length c) ∧ Sl RMark 3 (fun _ => True) w' p (markL key (doneL ts tm s.pairs)).length (markL key (doneL ts tm s.pairs))) ∧ All w w' := by
 have hk1 : All w (w.alloc (.cells #[.slice a0 l0 c0, .slice a1 l1 c1, .slice a2 l2 c2, .slice a3 l3 c3, .slice a4 l4 c4, .int .i64 s.due, .int .i64 s.reply] 31)) := Kept.alloc _ _ _
 have hb := heap_at w (.cells #[.slice a0 l0 c0, .slice a1 l1 c1, .slice a2 l2 c2, .slice a3 l3 c3, .slice a4 l4 c4, .int .i64 s.due, .int .i64 s.reply] 31) _ rfl
 obtain ⟨bb, hbb⟩ : ∃ b, b = w.heap.size := ⟨_, rfl⟩
 have HBB := Lib.hid hbb
 rw [← hbb] at hb
 have HPS := Lib.hid (fun (wx : World) (k : All (w.alloc (.cells #[.slice a0 l0 c0, .slice a1 l1 c1, .slice a2 l2 c2, .slice a3 l3 c3, .slice a4 l4 c4, .int .i64 s.due, .int .i64 s.reply] 31)) wx) => his.pairs.keep RPair.ok (hk1.trans k))
 have HST := Lib.hid (fun (wx : World) (k : All (w.alloc (.cells #[.slice a0 l0 c0, .slice a1 l1 c1, .slice a2 l2 c2, .slice a3 l3 c3, .slice a4 l4 c4, .int .i64 s.due, .int .i64 s.reply] 31)) wx) => hst.keep RRaw.ok (hk1.trans k))
 have HAN := Lib.hid (fun (wx : World) (k : All (w.alloc (.cells #[.slice a0 l0 c0, .slice a1 l1 c1, .slice a2 l2 c2, .slice a3 l3 c3, .slice a4 l4 c4, .int .i64 s.due, .int .i64 s.reply] 31)) wx) (z : Raw) (hz : z ∈ ts) => (hans z hz).keep RAns.ok (hk1.trans k))
 have HSM := Lib.hid hsm
 have HPL := Lib.hid his.pairs.len
 have HLE := Lib.hid (fun ps => (show (markR ts tm key ps).length ≤ ps.length from by rw [markR_eq tm key hall]; exact Nat.le_trans (markL_len _ _) (doneL_len _ _ _)))
 have HRE := Lib.hid (show markL key (doneL ts tm s.pairs) = markR ts tm key s.pairs from (markR_eq tm key hall _).symm)
 rw [HRE.out]
 have HK1 := Lib.hid hk1
 have e0 := cell_at (i := 0) hb rfl
 have e1 := cell_at (i := 1) hb rfl
 have e2 := cell_at (i := 2) hb rfl
 have e3 := cell_at (i := 3) hb rfl
 have e4 := cell_at (i := 4) hb rfl
 have e5 := cell_at (i := 5) hb rfl
 have e6 := cell_at (i := 6) hb rfl
 clear hbb hb his hst hsm hans hall hk1
 go_enter Tryz.func39, Tryz.ntmps39
 go_upto_region 1 with fail
 simp only [← HBB.out]
 generalize w.alloc (.cells #[.slice a0 l0 c0, .slice a1 l1 c1, .slice a2 l2 c2, .slice a3 l3 c3, .slice a4 l4 c4, .int .i64 s.due, .int .i64 s.reply] 31) = w1 at *
 go_wp2_with fail
 clear e0 e1 e2 e3 e4 e5 e6
 go_loopw [9, 19] (fun o i wr => ∃ k : Nat, k ≤ l2 ∧ i = .int .i64 k ∧ Acc RMark 3 85 (fun _ => False) w1.heap.size wr o (markR ts tm key (s.pairs.take k)) ∧ All w1 wr) (fun _ i _ => l2 - (intOf i).toNat)
 case atStart => exact ⟨0, Nat.zero_le _, rfl, Acc.nil _ _ _ _ _ _, Kept.refl _ _⟩
 case round =>
  obtain ⟨k, hk, rfl, hacc, hwr⟩ := hrel
  obtain ⟨wo, rfl⟩ : ∃ wo : World, wo = wr := ⟨_, rfl⟩
  by_cases hlt : k < l2
  ·obtain ⟨b, off, y, ha, -, c0, c1, -, -, htk⟩ := (HPS.out wo hwr).atPair hlt
   subst ha
   have HY := Lib.hid (markR_snoc (ts := ts) (tm := tm) (key := key) htk)
   have hyz1 := y.h1
   have hyz2 := y.h2
   have hmk : (markR ts tm key (s.pairs.take k)).length ≤ k := Nat.le_trans (HLE.out _) (List.length_take_le _ _)
   obtain ⟨mr, hmr⟩ : ∃ m, m = markR ts tm key (s.pairs.take k) := ⟨_, rfl⟩
   rw [← hmr] at hmk HY hacc
   have hko : All wo (wo.alloc (.cells #[.string y.paper, .string y.person] 38)) := Kept.alloc _ _ _
   have hblk := heap_at wo (.cells #[.string y.paper, .string y.person] 38) _ rfl
   obtain ⟨yb, hyb⟩ : ∃ q, q = wo.heap.size := ⟨_, rfl⟩
   have HYB := Lib.hid hyb
   rw [← hyb] at hblk
   have hac1 := hacc.keepAll RMark.ok hko
   have hwa := hwr.trans hko
   obtain ⟨oa0, oc0, rfl, -⟩ := hacc.form
   have hOWN := Lib.hid (fun (j : Nat) (hj : (Value.slice oa0 mr.length oc0).ownBlock = some j) => (show j < yb from by rw [hyb]; exact (hacc.lt j hj).2))
   clear htk hyb hacc hwr hko hmr
   go_upto_region 5 with fail
   simp only [← HYB.out]
   generalize wo.alloc (.cells #[.string y.paper, .string y.person] 38) = wa at *
   clear c0 c1
   obtain ⟨o, ho⟩ : ∃ z, z = lastO ts (y.paper, y.person) tm true := ⟨_, rfl⟩
   have HO := Lib.hid ho
   have HVA := Lib.hid (valid_any al ll cl ts (y.paper, y.person) tm wa (HST.out _ hwa) hl)
   rw [← ho] at HVA
   clear ho
   have HYX := Lib.hid (fun (wx : World) (k : All wa wx) => k.heap hblk trivial)
   have q0 := cell_at (i := 0) hblk rfl
   have q1 := cell_at (i := 1) hblk rfl
   clear hblk
   go_wp2_with fail
   refine HVA.out.mono ?_
   rintro e w3 ⟨rfl, hw3⟩
   clear q0 q1
   obtain ⟨⟨x, aa, ac⟩, hx⟩ : ∃ z, z = o.getD raw0 := ⟨_, rfl⟩
   have HP := Lib.hid (show markP ts tm key y = markY key y.paper y.person x.answers from by rw [markP, ← HO.out, ← hx])
   have hq3 := hwa.trans hw3
   have hxa : (∀ wx, All w1 wx → Sl RAns 4 (fun _ => True) wx aa x.answers.length x.answers) ∧ x.answers.length ≤ 1000 := by
    cases hoo : o with
    | none =>
     rw [hoo] at hx
     have e1 : (x, aa, ac) = raw0 := hx
     injection e1 with e1 e2
     injection e2 with e2 e3
     rw [e1, e2]
     exact ⟨fun _ _ => Sl.nil _ _ _ _ _, by decide⟩
    | some z =>
     rw [hoo] at hx
     have e1 : (x, aa, ac) = z := hx
     have hmem := lastO_mem (HO.out.symm.trans hoo)
     rw [← e1] at hmem
     exact ⟨fun wx kx => HAN.out wx kx _ hmem, (HSM.out _ hmem).2.2.2⟩
   obtain ⟨hxs, hxl⟩ := hxa
   have HXS := Lib.hid hxs
   rw [← hx]
   rw [show (encRaw (x, aa, ac)).toArray = revC x aa ac from rfl]
   have hk4 : All w3 (w3.alloc (.cells (revC x aa ac) 45)) := Kept.alloc _ _ _
   have hr4 := heap_at w3 (.cells (revC x aa ac) 45) _ rfl
   obtain ⟨rb, hrb⟩ : ∃ q, q = w3.heap.size := ⟨_, rfl⟩
   have HRB := Lib.hid hrb
   rw [← hrb] at hr4
   have hac4 := hac1.keepAll RMark.ok (hw3.trans hk4)
   have hq4 := hq3.trans hk4
   have hyk := hw3.trans hk4
   clear hx hrb hac1 hwa hw3 hk4 hq3 hxs
   go_upto_region 6 with fail
   simp only [← HRB.out]
   generalize w3.alloc (.cells (revC x aa ac) 45) = w4 at *
   have hy4 := HYX.out _ hyk
   have hown := Lib.hid (fun (j : Nat) (hj : (Value.slice oa0 mr.length oc0).ownBlock = some j) => (show j ≠ yb from by have := (hOWN.out j hj); omega))
   have u6 : w4.cell? ⟨rb, 6, none⟩ = some (.slice aa x.answers.length ac) := cell_at (i := 6) hr4 rfl
   obtain ⟨na, hna⟩ : ∃ n, n = x.answers.length := ⟨_, rfl⟩
   have HNA := Lib.hid hna
   rw [← hna] at hxl HXS u6
   clear hr4 hyk hna
   go_wp2_with fail
   clear u6
   go_loopw [9, 33] (fun o i wr => ∃ q : Nat, q ≤ na ∧ i = .int .i64 q ∧ Acc RMark 3 85 (fun _ => False) w1.heap.size wr o (mr ++ markY key y.paper y.person (x.answers.take q)) ∧ All w1 wr ∧ wr.heap[yb]? = some (.cells #[.string y.paper, .string y.person] 38) ∧ ∀ j, o.ownBlock = some j → j ≠ yb) (fun _ i _ => na - (intOf i).toNat)
   case atStart => exact ⟨0, Nat.zero_le _, rfl, by simpa [markY] using hac4, hq4, hy4, hown.out⟩
   case round =>
    obtain ⟨q, hq, rfl, hacc, hwr, hyp, hne⟩ := hrel
    obtain ⟨wp, rfl⟩ : ∃ wp : World, wp = wr := ⟨_, rfl⟩
    clear hac4 hy4 hq4
    have hyl : yb < wp.heap.size := (Array.getElem?_eq_some_iff.1 hyp).1
    by_cases hlt2 : q < na
    ·obtain ⟨b, off, g, ha, -, r0, r1, r2, r3, -, -, htk⟩ := (HXS.out _ hwr).atAns hlt2
     subst ha
     have HM := Lib.hid (markY_snoc (key := key) (p := y.paper) (q := y.person) htk)
     obtain ⟨my, hmy⟩ : ∃ m, m = mr ++ markY key y.paper y.person (x.answers.take q) := ⟨_, rfl⟩
     have HMY := Lib.hid hmy
     have hml : my.length ≤ 101000 := by
      rw [hmy, List.length_append]
      have h1 := markY_len key y.paper y.person (x.answers.take q)
      have h2 := List.length_take_le q x.answers
      omega
     rw [← hmy] at hacc
     have hko : All wp (wp.alloc (.cells #[.string g.question, .int .i64 g.number, .string g.option, .string g.words] 97)) := Kept.alloc _ _ _
     have hs9 := heap_at wp (.cells #[.string g.question, .int .i64 g.number, .string g.option, .string g.words] 97) _ rfl
     have hac9 := hacc.keepAll RMark.ok hko
     obtain ⟨oa, oc, rfl, hoc⟩ := hac9.form
     have hwn := hwr.trans hko
     have v0 := cell_at (i := 0) hs9 rfl
     have v1 := cell_at (i := 1) hs9 rfl
     have hy9 := hko.heap hyp trivial
     have HNE := Lib.hid hne
     have q0 := cell_at (i := 0) hy9 rfl
     have q1 := cell_at (i := 1) hy9 rfl
     have hsz := hwn.size
     have HY9 := Lib.hid hy9
     clear htk hmy hacc hwr hko hs9 hy9 hne hyp
     by_cases hkq : g.question = key
     case neg =>
      have hd : (g.question.toList == key.toList) = false := bytes_ne hkq
      have HM2 := Lib.hid (show mr ++ markY key y.paper y.person (x.answers.take (q + 1)) = my from by rw [HM.out, if_neg hkq, HMY.out])
      have hfin := Lib.hid hac9
      clear hkq hac9
      go_wp2_with fail
      go_roundw
      case rel => exact ⟨q + 1, by omega, by go_num, by rw [HM2.out]; exact hfin.out, hwn, HY9.out, HNE.out⟩
      case measure => simp [intOf]; omega
     case pos =>
      have hd : (g.question.toList == key.toList) = true := by rw [hkq]; simp
      have HM2 := Lib.hid (show mr ++ markY key y.paper y.person (x.answers.take (q + 1)) = my ++ [⟨y.paper, y.person, g.number⟩] from by rw [HM.out, if_pos hkq, HMY.out, List.append_assoc])
      clear hkq
      go_wp2_with (at_builtin; refine wp_append1 RMark.ok _ rfl _ _ 74 rfl w1.heap.size 85 (.agg #[.string ⟨#[]⟩, .string ⟨#[]⟩, .int .i64 0]) 3 40 Tryz.underlying74 (by kernel_rfl) rfl (by decide) (fun _ => False) _ my rfl (hac9.keepAll RMark.ok (Kept.alloc _ _ _)) ⟨_, 0, none⟩ 1 [.string y.paper, .string y.person, .int .i64 g.number] rfl rfl (World.news_of_block (cs := #[.string y.paper, .string y.person, .int .i64 g.number]) (heap_at _ _ _ (by simp))) (by simp [Value.oneCell']) ⟨y.paper, y.person, g.number⟩ ⟨rfl, hyz1, hyz2⟩ (by omega) (by decide) (by simp at *; omega) ?_)
      intro p9 c9 w9 hacc9 hg9 hat9
      have hk9 := Lib.hid ((hwn.then_alloc _).grown hg9 (fun j hj => Or.inl (hac9.lt j hj).1))
      have hy8 := Lib.hid (Kept.heap (F := fun k => k = yb) (((Kept.refl _ _).then_alloc _).grown hg9 (fun j hj => Or.inr (fun e => HNE.out j hj e))) HY9.out rfl)
      have hn9 := Lib.hid (fun (j : Nat) (hj : (Value.slice p9 (my.length + 1) c9).ownBlock = some j) => (show j ≠ yb from by
       rcases hat9 with h | h
       ·exact HNE.out j (by rw [← h]; exact hj)
       ·rw [h] at hj; injection hj with hj; first | omega | (rw [← hj]; simp; omega) | trace_state))
      have hfin := Lib.hid hacc9
      clear hacc9 hg9 hat9 hac9 q0 q1 v0 v1
      go_wp2_with fail
      go_roundw
      case rel => exact ⟨q + 1, by omega, by go_num, by rw [HM2.out]; exact hfin.out, hk9.out, hy8.out, hn9.out⟩
      case measure => simp [intOf]; omega
    ·have hdq : decide ((q : Int) < (na : Int)) = false := by simp; omega
     have HE3 := Lib.hid (show x.answers.take q = x.answers from List.take_of_length_le (by have := HNA.out; omega))
     have HF := Lib.hid (show markR ts tm key (s.pairs.take (k + 1)) = mr ++ markY key y.paper y.person (x.answers.take q) from by rw [HE3.out, HY.out, HP.out])
     have hfin := Lib.hid hacc
     clear hacc hyp hne
     go_wp2_with fail
     go_roundw
     case rel => exact ⟨k + 1, by omega, by go_num, by rw [HF.out]; exact hfin.out, hwr⟩
     case measure => simp [intOf]; omega
  ·have hd8 : decide ((k : Int) < (l2 : Int)) = false := by simp; omega
   have HE2 := Lib.hid (show s.pairs.take k = s.pairs from List.take_of_length_le (by have := HPL.out; omega))
   rw [HE2.out] at hacc
   obtain ⟨pa, pc, rfl, hsl⟩ := markSl hacc
   have HSL := Lib.hid hsl
   clear hacc hsl
   go_wp2_with fail
   go_ret
   exact ⟨⟨pa, pc, rfl, HSL.out⟩, HK1.out.trans hwr⟩
end Go.Proofs.YthhmgblcccbdaaaGreatDoor
