/- How far the review of a pair is: the method stand; at. -/
import Derived.Test.YthhmgblcccbdaaaGreatDoorRt
namespace Go.Proofs.YthhmgblcccbdaaaGreatDoor
open Go.RowKit

/-- How far the review of a pair is. -/
noncomputable def standF (s : Set7) (ts : List Raw) (q : K2) (tm : Int) : Int :=
  if (lastO ts q tm true).isSome = true then 3 else if s.due ≤ tm then 4 else if (lastO ts q tm false).isSome = true then 2 else 1
theorem last_box (a0 : Option Addr) (l0 c0 : Nat) (a1 : Option Addr) (l1 c1 : Nat) (a2 : Option Addr) (l2 c2 : Nat) (a3 : Option Addr) (l3 c3 : Nat) (a4 : Option Addr) (l4 c4 : Nat) (s : Set7) (kb : Nat) (ts : List Raw) (hts : ts.length ≤ 1000000) (q : K2) (hq : okK q) (tm : Int) (dn : Bool) (w : World) (hb : BookIs w kb #[.slice a0 l0 c0, .slice a1 l1 c1, .slice a2 l2 c2, .slice a3 l3 c3, .slice a4 l4 c4, .int .i64 s.due, .int .i64 s.reply] ts) :
    ∃ (x : Rev) (aa : Option Addr) (ac : Nat), Calls Tryz.prog 59 #[.pointer (some ⟨kb, 0, none⟩), .agg #[.string q.1, .string q.2], .int .i64 tm, .bool dn] w fun e w' => e = .returned (.tuple #[.agg (revC x aa ac), .bool (lastO ts q tm dn).isSome]) ∧ All w w' :=
  ⟨_, _, _, last_any kb #[.slice a0 l0 c0, .slice a1 l1 c1, .slice a2 l2 c2, .slice a3 l3 c3, .slice a4 l4 c4, .int .i64 s.due, .int .i64 s.reply] rfl ts hts q hq tm dn w hb⟩

set_option maxRecDepth 100000 in
set_option maxHeartbeats 3200000 in
theorem stand_any (a0 : Option Addr) (l0 c0 : Nat) (a1 : Option Addr) (l1 c1 : Nat) (a2 : Option Addr) (l2 c2 : Nat) (a3 : Option Addr) (l3 c3 : Nat) (a4 : Option Addr) (l4 c4 : Nat) (s : Set7) (kb : Nat) (ts : List Raw) (hts : ts.length ≤ 1000000) (q : K2) (hq : okK q) (tm : Int) (w : World) (hb : BookIs w kb #[.slice a0 l0 c0, .slice a1 l1 c1, .slice a2 l2 c2, .slice a3 l3 c3, .slice a4 l4 c4, .int .i64 s.due, .int .i64 s.reply] ts) :
    Calls Tryz.prog 63 #[.pointer (some ⟨kb, 0, none⟩), .agg #[.string q.1, .string q.2], .int .i64 tm] w fun e w' => e = .returned (.int .i64 (standF s ts q tm)) ∧ All w w' := by
  have hk1 : All w (w.alloc (.cells #[.string q.1, .string q.2] 38)) := Kept.alloc _ _ _
  have hp := heap_at w (.cells #[.string q.1, .string q.2] 38) _ rfl
  obtain ⟨pb, hpb⟩ : ∃ b, b = w.heap.size := ⟨_, rfl⟩
  have HPB := Lib.hid hpb
  rw [← hpb] at hp
  have HBK := Lib.hid (fun (wx : World) (k : All (w.alloc (.cells #[.string q.1, .string q.2] 38)) wx) => hb.keep (hk1.trans k))
  have HPP := Lib.hid (fun (wx : World) (k : All (w.alloc (.cells #[.string q.1, .string q.2] 38)) wx) => k.heap hp trivial)
  obtain ⟨x1, aa1, ac1, hl1⟩ := last_box a0 l0 c0 a1 l1 c1 a2 l2 c2 a3 l3 c3 a4 l4 c4 s kb ts hts q hq tm true _ (hb.keep hk1)
  have HL1 := Lib.hid hl1
  have HL2 := Lib.hid (fun (wx : World) (k : All (w.alloc (.cells #[.string q.1, .string q.2] 38)) wx) => last_box a0 l0 c0 a1 l1 c1 a2 l2 c2 a3 l3 c3 a4 l4 c4 s kb ts hts q hq tm false wx (hb.keep (hk1.trans k)))
  obtain ⟨d1, hd1⟩ : ∃ d, d = (lastO ts q tm true).isSome := ⟨_, rfl⟩
  obtain ⟨d2, hd2⟩ : ∃ d, d = (lastO ts q tm false).isSome := ⟨_, rfl⟩
  have HST := Lib.hid (show standF s ts q tm = if d1 = true then 3 else if s.due ≤ tm then 4 else if d2 = true then 2 else 1 from by rw [standF, hd1, hd2])
  obtain ⟨z, hz⟩ : ∃ z, z = standF s ts q tm := ⟨_, rfl⟩
  have HZ := Lib.hid hz
  rw [← hd1] at HL1
  rw [← hd2] at HL2
  rw [← hz]
  have e0 := cell_at (i := 0) hp rfl
  have e1 := cell_at (i := 1) hp rfl
  have HK1 := Lib.hid hk1
  clear hpb hp hb hl1 hd1 hd2 hz hk1
  go_enter Tryz.func63, Tryz.ntmps63
  go_upto_region 1 with fail
  simp only [← HPB.out]
  generalize w.alloc (.cells #[.string q.1, .string q.2] 38) = w1 at *
  go_wp2_with fail
  refine HL1.out.mono ?_
  rintro e w2 ⟨rfl, hw2⟩
  have hw3 : All w1 (w2.alloc (.cells (revC x1 aa1 ac1) 45)) := hw2.then_alloc _
  cases d1 with
  | true =>
    go_wp2_with fail
    go_ret
    exact ⟨ret_int' (show (3 : Int) = z by rw [HZ.out, HST.out, if_pos (by simp)]), HK1.out.trans hw3⟩
  | false =>
    obtain ⟨mb, B, n, vs, hkb, -⟩ := HBK.out _ hw3
    have hp3 := HPP.out _ hw3
    have q0 := cell_at (i := 0) hp3 rfl
    have q1 := cell_at (i := 1) hp3 rfl
    have k5 := cell_at (i := 5) hkb rfl
    clear hp3 hkb e0 e1
    by_cases hdue : s.due ≤ tm
    · have hd : decide (s.due ≤ tm) = true := by simpa using hdue
      have HD := Lib.hid hdue
      clear hdue
      go_wp2_with fail
      go_ret
      exact ⟨ret_int' (show (4 : Int) = z by have h := HD.out; rw [HZ.out, HST.out, if_neg (by simp), if_pos (by omega)]), HK1.out.trans hw3⟩
    · have hd : decide (s.due ≤ tm) = false := by simpa using hdue
      have HD := Lib.hid hdue
      clear hdue
      obtain ⟨x2, aa2, ac2, hl2⟩ := HL2.out _ hw3
      have HL3 := Lib.hid hl2
      clear hl2
      go_wp2_with fail
      refine HL3.out.mono ?_
      rintro e w4 ⟨rfl, hw4⟩
      have hw5 : All w1 (w4.alloc (.cells (revC x2 aa2 ac2) 45)) := (hw3.trans hw4).then_alloc _
      cases d2 with
      | true =>
        go_wp2_with fail
        go_ret
        exact ⟨ret_int' (show (2 : Int) = z by have h := HD.out; rw [HZ.out, HST.out, if_neg (by simp), if_neg (by omega), if_pos (by simp)]), HK1.out.trans hw5⟩
      | false =>
        go_wp2_with fail
        go_ret
        exact ⟨ret_int' (show (1 : Int) = z by have h := HD.out; rw [HZ.out, HST.out, if_neg (by simp), if_neg (by omega), if_neg (by simp)]), HK1.out.trans hw5⟩

/-- The error of reviews and a moment. -/
noncomputable def atE (s : Set7) (xs : List Rev) (tm : Int) : Int := firstV [revsF s xs, if 0 ≤ tm ∧ tm < 5761440 then 0 else 1]
theorem atE_1 {s : Set7} {xs : List Rev} {tm : Int} (h : revsF s xs ≠ 0) : atE s xs tm = revsF s xs := by rw [atE, firstV, if_pos h]
theorem atE_2 {s : Set7} {xs : List Rev} {tm : Int} (h : revsF s xs = 0) : atE s xs tm = if 0 ≤ tm ∧ tm < 5761440 then 0 else 1 := by
  rw [atE, firstV, if_neg (fun e => e h), firstV]
  by_cases h3 : 0 ≤ tm ∧ tm < 5761440
  · rw [if_pos h3]; rfl
  · rw [if_neg h3]; rfl
/-- A book, or nothing and an error. -/
def AtV (er : Int) (cs : Array Value) (ts : List Raw) (e : Ending) (w' : World) : Prop :=
  (er = 0 → ∃ kb, e = .returned (.tuple #[.pointer (some ⟨kb, 0, none⟩), .int .i64 0]) ∧ BookIs w' kb cs ts) ∧ (er ≠ 0 → e = .returned (.tuple #[.pointer none, .int .i64 er]))
theorem AtV.bad {er : Int} {cs : Array Value} {ts : List Raw} {w' : World} (h : er ≠ 0) : AtV er cs ts (.returned (.tuple #[.pointer none, .int .i64 er])) w' := ⟨fun h0 => absurd h0 h, fun _ => rfl⟩

set_option maxRecDepth 100000 in
set_option maxHeartbeats 3200000 in
theorem at_any (a0 : Option Addr) (l0 c0 : Nat) (a1 : Option Addr) (l1 c1 : Nat) (a2 : Option Addr) (l2 c2 : Nat) (a3 : Option Addr) (l3 c3 : Nat) (a4 : Option Addr) (l4 c4 : Nat) (s : Set7) (al : Option Addr) (ll cl : Nat) (xs : List Rev) (ts : List Raw) (tm : Int) (w : World) (his : SetIs (fun _ => True) w a0 l0 a1 l1 a2 l2 a3 l3 a4 l4 s) (hsx : Sl RRev 7 (fun _ => True) w al ll xs) (hst : Sl RRaw 7 (fun _ => True) w al ll ts) (hl : ll ≤ 1000000) (hlc : ll ≤ cl) (hg : Glob w) :
    Calls Tryz.prog 62 #[.agg #[.slice a0 l0 c0, .slice a1 l1 c1, .slice a2 l2 c2, .slice a3 l3 c3, .slice a4 l4 c4, .int .i64 s.due, .int .i64 s.reply], .slice al ll cl, .int .i64 tm] w fun e w' => AtV (atE s xs tm) #[.slice a0 l0 c0, .slice a1 l1 c1, .slice a2 l2 c2, .slice a3 l3 c3, .slice a4 l4 c4, .int .i64 s.due, .int .i64 s.reply] ts e w' ∧ All w w' := by
  have hk1 : All w (w.alloc (.cells #[.slice a0 l0 c0, .slice a1 l1 c1, .slice a2 l2 c2, .slice a3 l3 c3, .slice a4 l4 c4, .int .i64 s.due, .int .i64 s.reply] 31)) := Kept.alloc _ _ _
  have hb := heap_at w (.cells #[.slice a0 l0 c0, .slice a1 l1 c1, .slice a2 l2 c2, .slice a3 l3 c3, .slice a4 l4 c4, .int .i64 s.due, .int .i64 s.reply] 31) _ rfl
  obtain ⟨bb, hbb⟩ : ∃ b, b = w.heap.size := ⟨_, rfl⟩
  have HBB := Lib.hid hbb
  rw [← hbb] at hb
  have HBL := Lib.hid (fun (wx : World) (k : All (w.alloc (.cells #[.slice a0 l0 c0, .slice a1 l1 c1, .slice a2 l2 c2, .slice a3 l3 c3, .slice a4 l4 c4, .int .i64 s.due, .int .i64 s.reply] 31)) wx) => k.heap hb trivial)
  have HCK := Lib.hid (check_any a0 l0 c0 a1 l1 c1 a2 l2 c2 a3 l3 c3 a4 l4 c4 s al ll cl xs _ (his.keep hk1) (hsx.keep RRev.ok hk1) hl hlc (hg.keep hk1))
  have HBO := Lib.hid (fun (wx : World) (k : All (w.alloc (.cells #[.slice a0 l0 c0, .slice a1 l1 c1, .slice a2 l2 c2, .slice a3 l3 c3, .slice a4 l4 c4, .int .i64 s.due, .int .i64 s.reply] 31)) wx) => bookOf_any a0 l0 c0 a1 l1 c1 a2 l2 c2 a3 l3 c3 a4 l4 c4 s al ll cl ts wx (hst.keep RRaw.ok (hk1.trans k)) hl)
  obtain ⟨er, her⟩ : ∃ z, z = atE s xs tm := ⟨_, rfl⟩
  have HER := Lib.hid her
  obtain ⟨ef, hef⟩ : ∃ z, z = revsF s xs := ⟨_, rfl⟩
  have HEF := Lib.hid hef
  rw [← her]
  have HK1 := Lib.hid hk1
  have e0 := cell_at (i := 0) hb rfl
  have e1 := cell_at (i := 1) hb rfl
  have e2 := cell_at (i := 2) hb rfl
  have e3 := cell_at (i := 3) hb rfl
  have e4 := cell_at (i := 4) hb rfl
  have e5 := cell_at (i := 5) hb rfl
  have e6 := cell_at (i := 6) hb rfl
  clear her hef hbb hb his hsx hst hg hk1
  go_enter Tryz.func62, Tryz.ntmps62
  go_upto_region 1 with fail
  simp only [← HBB.out]
  generalize w.alloc (.cells #[.slice a0 l0 c0, .slice a1 l1 c1, .slice a2 l2 c2, .slice a3 l3 c3, .slice a4 l4 c4, .int .i64 s.due, .int .i64 s.reply] 31) = w1 at *
  go_wp2_with fail
  refine HCK.out.mono ?_
  rintro e w2 ⟨rfl, hw2⟩
  rw [← HEF.out]
  clear e0 e1 e2 e3 e4 e5 e6
  by_cases h0 : ef = 0
  case neg =>
    have hd : (ef != 0) = true := by simpa using h0
    have HE := Lib.hid (show er = ef from by rw [HER.out, atE_1 (by rw [← HEF.out]; exact h0), HEF.out])
    have H0 := Lib.hid h0
    clear h0
    go_wp2_with fail
    go_ret2
    exact ⟨by rw [HE.out]; exact AtV.bad H0.out, HK1.out.trans hw2⟩
  case pos =>
    subst h0
    have hd : ((0 : Int) != 0) = false := rfl
    have HE := Lib.hid (show er = _ from by rw [HER.out, atE_2 HEF.out.symm])
    go_wp2_with fail
    refine (isMoment_any tm _).mono ?_
    rintro e w' ⟨rfl, rfl⟩
    by_cases hm : 0 ≤ tm ∧ tm < 5761440
    case neg =>
      rw [decide_eq_false hm]
      have HE2 := Lib.hid (show er = 1 from by rw [HE.out, if_neg hm])
      clear hm
      go_wp2_with fail
      go_ret2
      exact ⟨by rw [HE2.out]; exact AtV.bad (by decide), HK1.out.trans hw2⟩
    case pos =>
      rw [decide_eq_true hm]
      have HE2 := Lib.hid (show er = 0 from by rw [HE.out, if_pos hm])
      have hb2 := HBL.out _ hw2
      have e0 := cell_at (i := 0) hb2 rfl
      have e1 := cell_at (i := 1) hb2 rfl
      have e2 := cell_at (i := 2) hb2 rfl
      have e3 := cell_at (i := 3) hb2 rfl
      have e4 := cell_at (i := 4) hb2 rfl
      have e5 := cell_at (i := 5) hb2 rfl
      have e6 := cell_at (i := 6) hb2 rfl
      clear hm hb2
      go_wp2_with fail
      refine (HBO.out _ hw2).mono ?_
      rintro e w3 ⟨⟨kb, rfl, hbk⟩, hw3⟩
      clear e0 e1 e2 e3 e4 e5 e6
      go_wp2_with fail
      go_ret2
      exact ⟨by rw [HE2.out]; exact ⟨fun _ => ⟨kb, rfl, hbk⟩, fun h => absurd rfl h⟩, HK1.out.trans (hw2.trans hw3)⟩
end Go.Proofs.YthhmgblcccbdaaaGreatDoor

/- Stands; StandsOf; Equal of stands and of pairs. -/
namespace Go.Proofs.YthhmgblcccbdaaaGreatDoor
open Go.RowKit

/-- How far the review of a pair is. -/
structure Std3 where
  paper : ByteArray
  person : ByteArray
  state : Int
def StdSmall (x : Std3) : Prop := x.paper.size ≤ 1000000 ∧ x.person.size ≤ 1000000
def encStd (x : Std3) : List Value := [.string x.paper, .string x.person, .int .i64 x.state]
def RStd : Rel Std3 := fun _ _ vs x => vs = encStd x ∧ StdSmall x
theorem flatStd : Flat RStd encStd StdSmall 3 :=
  ⟨fun _ _ _ _ => Iff.rfl, fun _ => rfl, by decide, fun x u hu => by simp [encStd] at hu; rcases hu with rfl | rfl | rfl <;> rfl⟩
theorem RStd.ok : RStd.Ok := Flat.ok flatStd
theorem Sl.atStd {F : Nat → Prop} {w : World} {a : Option Addr} {len : Nat} {xs : List Std3} (h : Sl RStd 3 F w a len xs) {k : Nat} (hk : k < len) :
    ∃ b off x, a = some ⟨b, off, none⟩ ∧ F b ∧ w.cell? ⟨b, off + k * 3, none⟩ = some (.string x.paper) ∧ w.cell? ⟨b, off + k * 3 + 1, none⟩ = some (.string x.person) ∧ w.cell? ⟨b, off + k * 3 + 2, none⟩ = some (.int .i64 x.state) ∧ StdSmall x ∧ xs[k]? = some x ∧ xs.take (k + 1) = xs.take k ++ [x] := by
  obtain ⟨b, off, vs, x, ha, hF, h1, h2, ⟨rfl, hsm⟩, h4, h5, h6⟩ := h.at hk
  exact ⟨b, off, x, ha, hF, (h2 0 (by simp [encStd])).trans rfl, (h2 1 (by simp [encStd])).trans rfl, (h2 2 (by simp [encStd])).trans rfl, hsm, h4, h6⟩
/-- How far each pair's review is. -/
noncomputable def standOf (s : Set7) (ts : List Raw) (tm : Int) (p : Pair2) : Std3 := ⟨p.paper, p.person, standF s ts (p.paper, p.person) tm⟩
noncomputable def standsF (s : Set7) (ts : List Raw) (tm : Int) (ps : List Pair2) : List Std3 := ps.map (standOf s ts tm)
theorem standsF_succ {s : Set7} {ts : List Raw} {tm : Int} {ps : List Pair2} {k : Nat} {y : Pair2} (h : ps.take (k + 1) = ps.take k ++ [y]) : standsF s ts tm (ps.take (k + 1)) = standsF s ts tm (ps.take k) ++ [standOf s ts tm y] := by rw [h, standsF, List.map_append]; rfl
theorem standsF_len (s : Set7) (ts : List Raw) (tm : Int) (ps : List Pair2) : (standsF s ts tm ps).length = ps.length := by simp [standsF]
/-- Stands, or nothing and an error. -/
def StdV (er : Int) (xs : List Std3) (e : Ending) (w' : World) : Prop :=
  (er = 0 → ∃ (p : Option Addr) (c : Nat), e = .returned (.tuple #[.slice p xs.length c, .int .i64 0]) ∧ Sl RStd 3 (fun _ => True) w' p xs.length xs) ∧ (er ≠ 0 → e = .returned (.tuple #[.slice none 0 0, .int .i64 er]))
theorem stdSl {B : Nat} {w : World} {v : Value} {xs : List Std3} (h : Acc RStd 3 68 (fun _ => False) B w v xs) : ∃ (p : Option Addr) (c : Nat), v = .slice p xs.length c ∧ Sl RStd 3 (fun _ => True) w p xs.length xs := by
  obtain ⟨p, c, hv, h1⟩ := h.sl RStd.ok (by decide) (G := fun _ => True) (fun _ h => h.elim) (fun _ _ => trivial)
  exact ⟨p, c, hv, h1⟩

set_option maxRecDepth 100000 in
set_option maxHeartbeats 6400000 in
theorem stands_any (a0 : Option Addr) (l0 c0 : Nat) (a1 : Option Addr) (l1 c1 : Nat) (a2 : Option Addr) (l2 c2 : Nat) (a3 : Option Addr) (l3 c3 : Nat) (a4 : Option Addr) (l4 c4 : Nat) (s : Set7) (al : Option Addr) (ll cl : Nat) (xs : List Rev) (ts : List Raw) (tm : Int) (w : World) (his : SetIs (fun _ => True) w a0 l0 a1 l1 a2 l2 a3 l3 a4 l4 s) (hsx : Sl RRev 7 (fun _ => True) w al ll xs) (hst : Sl RRaw 7 (fun _ => True) w al ll ts) (hl : ll ≤ 1000000) (hlc : ll ≤ cl) (hg : Glob w) :
    Calls Tryz.prog 24 #[.agg #[.slice a0 l0 c0, .slice a1 l1 c1, .slice a2 l2 c2, .slice a3 l3 c3, .slice a4 l4 c4, .int .i64 s.due, .int .i64 s.reply], .slice al ll cl, .int .i64 tm] w fun e w' => StdV (atE s xs tm) (standsF s ts tm s.pairs) e w' ∧ All w w' := by
  have hk1 : All w (w.alloc (.cells #[.slice a0 l0 c0, .slice a1 l1 c1, .slice a2 l2 c2, .slice a3 l3 c3, .slice a4 l4 c4, .int .i64 s.due, .int .i64 s.reply] 31)) := Kept.alloc _ _ _
  have hb := heap_at w (.cells #[.slice a0 l0 c0, .slice a1 l1 c1, .slice a2 l2 c2, .slice a3 l3 c3, .slice a4 l4 c4, .int .i64 s.due, .int .i64 s.reply] 31) _ rfl
  obtain ⟨bb, hbb⟩ : ∃ b, b = w.heap.size := ⟨_, rfl⟩
  have HBB := Lib.hid hbb
  rw [← hbb] at hb
  have HBL := Lib.hid (fun (wx : World) (k : All (w.alloc (.cells #[.slice a0 l0 c0, .slice a1 l1 c1, .slice a2 l2 c2, .slice a3 l3 c3, .slice a4 l4 c4, .int .i64 s.due, .int .i64 s.reply] 31)) wx) => k.heap hb trivial)
  have HAT := Lib.hid (at_any a0 l0 c0 a1 l1 c1 a2 l2 c2 a3 l3 c3 a4 l4 c4 s al ll cl xs ts tm _ (his.keep hk1) (hsx.keep RRev.ok hk1) (hst.keep RRaw.ok hk1) hl hlc (hg.keep hk1))
  have HPS := Lib.hid (fun (wx : World) (k : All (w.alloc (.cells #[.slice a0 l0 c0, .slice a1 l1 c1, .slice a2 l2 c2, .slice a3 l3 c3, .slice a4 l4 c4, .int .i64 s.due, .int .i64 s.reply] 31)) wx) => his.pairs.keep RPair.ok (hk1.trans k))
  have HPL := Lib.hid his.pairs.len
  have hl2 := his.n2
  have HTL := Lib.hid hst.len
  obtain ⟨er, her⟩ : ∃ z, z = atE s xs tm := ⟨_, rfl⟩
  rw [← her] at HAT ⊢
  have HK1 := Lib.hid hk1
  have e0 := cell_at (i := 0) hb rfl
  have e1 := cell_at (i := 1) hb rfl
  have e2 := cell_at (i := 2) hb rfl
  have e3 := cell_at (i := 3) hb rfl
  have e4 := cell_at (i := 4) hb rfl
  have e5 := cell_at (i := 5) hb rfl
  have e6 := cell_at (i := 6) hb rfl
  clear her hbb hb his hsx hst hg hk1
  go_enter Tryz.func24, Tryz.ntmps24
  go_upto_region 1 with fail
  simp only [← HBB.out]
  generalize w.alloc (.cells #[.slice a0 l0 c0, .slice a1 l1 c1, .slice a2 l2 c2, .slice a3 l3 c3, .slice a4 l4 c4, .int .i64 s.due, .int .i64 s.reply] 31) = w1 at *
  go_wp2_with fail
  refine HAT.out.mono ?_
  rintro e w2 ⟨hv, hw2⟩
  clear e0 e1 e2 e3 e4 e5 e6
  by_cases h0 : er = 0
  case neg =>
    obtain rfl := hv.2 h0
    have hd : (er != 0) = true := by simpa using h0
    have H0 := Lib.hid h0
    clear h0 hv
    go_wp2_with fail
    go_ret2
    exact ⟨⟨fun h => absurd h H0.out, fun _ => rfl⟩, HK1.out.trans hw2⟩
  case pos =>
    subst h0
    have hd : ((0 : Int) != 0) = false := rfl
    obtain ⟨kb, rfl, hbk⟩ := hv.1 rfl
    have HBK := Lib.hid hbk
    have hb2 := HBL.out _ hw2
    have g2 := cell_at (i := 2) hb2 rfl
    clear hv hbk hb2
    go_wp2_with fail
    clear g2
    go_loopw [10, 26] (fun o i wr => ∃ k : Nat, k ≤ l2 ∧ i = .int .i64 k ∧ Acc RStd 3 68 (fun _ => False) w2.heap.size wr o (standsF s ts tm (s.pairs.take k)) ∧ All w2 wr) (fun _ i _ => l2 - (intOf i).toNat)
    case atStart => exact ⟨0, Nat.zero_le _, rfl, Acc.nil _ _ _ _ _ _, Kept.refl _ _⟩
    case round =>
      obtain ⟨k, hk, rfl, hacc, hwr⟩ := hrel
      obtain ⟨wo, rfl⟩ : ∃ wo : World, wo = wr := ⟨_, rfl⟩
      by_cases hlt : k < l2
      · have hq := hw2.trans hwr
        obtain ⟨b, off, y, ha, -, c0, c1, -, -, htk⟩ := (HPS.out wo hq).atPair hlt
        subst ha
        have HY := Lib.hid (standsF_succ (s := s) (ts := ts) (tm := tm) htk)
        have hyz1 := y.h1
        have hyz2 := y.h2
        have hko : All wo (wo.alloc (.cells #[.string y.paper, .string y.person] 38)) := Kept.alloc _ _ _
        have hblk := heap_at wo (.cells #[.string y.paper, .string y.person] 38) _ rfl
        obtain ⟨yb, hyb⟩ : ∃ q, q = wo.heap.size := ⟨_, rfl⟩
        have HYB := Lib.hid hyb
        rw [← hyb] at hblk
        have hac1 := hacc.keepAll RStd.ok hko
        have hwa := hwr.trans hko
        obtain ⟨oa, oc, rfl, hoc⟩ := hac1.form
        obtain ⟨m, hm⟩ : ∃ m, m = (standsF s ts tm (s.pairs.take k)).length := ⟨_, rfl⟩
        have HM := Lib.hid hm
        have hmk : m ≤ k := by rw [hm, standsF_len]; exact List.length_take_le _ _
        rw [← hm]
        have hzw : w2.heap.size ≤ wo.heap.size := hwr.size
        have hzo : wo.heap.size ≤ (wo.alloc (.cells #[.string y.paper, .string y.person] 38)).heap.size := hko.size
        clear htk hyb hacc hwr hko hm
        go_upto_region 8 with fail
        simp only [← HYB.out]
        generalize wo.alloc (.cells #[.string y.paper, .string y.person] 38) = wa at *
        clear c0 c1
        have HBX := Lib.hid (fun (wx : World) (k : All wa wx) => k.heap hblk trivial)
        have HSD := Lib.hid (fun (wx : World) (k : All wa wx) => stand_any a0 l0 c0 a1 l1 c1 (some ⟨b, off, none⟩) l2 c2 a3 l3 c3 a4 l4 c4 s kb ts (by have := HTL.out; omega) (y.paper, y.person) ⟨hyz1, hyz2⟩ tm wx (HBK.out.keep (hwa.trans k)))
        obtain ⟨z, hz⟩ : ∃ z, z = standF s ts (y.paper, y.person) tm := ⟨_, rfl⟩
        have HZ := Lib.hid hz
        rw [← hz] at HSD
        clear hz hblk
        refine wp_region_inv 8 (by kernel_rfl) (by kernel_rfl) (by kernel_rfl) (fun _ wx => All wa wx)
          (DL [QIs ((Value.slice oa m oc)), QIs (.agg #[.string y.paper, .string y.person]), QIs ((Value.pointer (some ⟨kb, 0, none⟩))), QIs (.agg #[.string y.paper, .string y.person]), QIs ((Value.int .i64 tm)), QIs (.int .i64 z), QIs (.agg #[.string y.paper, .string y.person, .int .i64 z]), QRow #[.string y.paper, .string y.person, .int .i64 z] 68]) All
          (DL.keep (by simp only [List.forall_mem_cons, List.not_mem_nil, false_implies, implies_true, and_true]; exact ⟨QIs.stays _, QIs.stays _, QIs.stays _, QIs.stays _, QIs.stays _, QIs.stays _, QIs.stays _, QRow.stays _ _⟩)) ?_ ?_ ?_
        · exact Kept.drew _ _
        · intro i o t ho hd hi k' a' wx hk' hg hdf hts hoth hdeps
          have hszx := hg.size
          have hz : i = 0 ∨ i = 1 ∨ i = 2 ∨ i = 3 ∨ i = 4 ∨ i = 5 ∨ i = 6 ∨ i = 7 := by omega
          rcases hz with rfl | rfl | rfl | rfl | rfl | rfl | rfl | rfl
          · obtain rfl := Option.some.inj ho
            obtain rfl := Option.some.inj hd
            have e0 : a'.tmps.getD 10 undef = (Value.slice oa m oc) := tmp_of ((hoth 10 (by decide)).trans rfl)
            clear hoth hdeps hdf hts ho
            refine wp_via (fun K' hK => ?_)
            have HK := Lib.hid hK
            clear hK
            go_simp
            exact HK.out _ _ ⟨_, rfl, hg, Kept.refl _ _, rfl⟩
          · obtain rfl := Option.some.inj ho
            obtain rfl := Option.some.inj hd
            have e0 : a'.tmps.getD 12 undef = (Value.pointer (some ⟨yb, 0, none⟩)) := tmp_of ((hoth 12 (by decide)).trans rfl)
            have hbx := HBX.out wx hg
            have g0 := cell_at (i := 0) hbx rfl
            have g1 := cell_at (i := 1) hbx rfl
            clear hbx
            clear hoth hdeps hdf hts ho
            refine wp_via (fun K' hK => ?_)
            have HK := Lib.hid hK
            clear hK
            go_simp
            exact HK.out _ _ ⟨_, rfl, hg, Kept.refl _ _, rfl⟩
          · obtain rfl := Option.some.inj ho
            obtain rfl := Option.some.inj hd
            have e0 : a'.tmps.getD 8 undef = (Value.pointer (some ⟨kb, 0, none⟩)) := tmp_of ((hoth 8 (by decide)).trans rfl)
            clear hoth hdeps hdf hts ho
            refine wp_via (fun K' hK => ?_)
            have HK := Lib.hid hK
            clear hK
            go_simp
            exact HK.out _ _ ⟨_, rfl, hg, Kept.refl _ _, rfl⟩
          · obtain rfl := Option.some.inj ho
            obtain rfl := Option.some.inj hd
            have e0 : a'.tmps.getD 12 undef = (Value.pointer (some ⟨yb, 0, none⟩)) := tmp_of ((hoth 12 (by decide)).trans rfl)
            have hbx := HBX.out wx hg
            have g0 := cell_at (i := 0) hbx rfl
            have g1 := cell_at (i := 1) hbx rfl
            clear hbx
            clear hoth hdeps hdf hts ho
            refine wp_via (fun K' hK => ?_)
            have HK := Lib.hid hK
            clear hK
            go_simp
            exact HK.out _ _ ⟨_, rfl, hg, Kept.refl _ _, rfl⟩
          · obtain rfl := Option.some.inj ho
            obtain rfl := Option.some.inj hd
            have e0 : a'.tmps.getD 2 undef = (Value.int .i64 tm) := tmp_of ((hoth 2 (by decide)).trans rfl)
            clear hoth hdeps hdf hts ho
            refine wp_via (fun K' hK => ?_)
            have HK := Lib.hid hK
            clear hK
            go_simp
            exact HK.out _ _ ⟨_, rfl, hg, Kept.refl _ _, rfl⟩
          · obtain rfl := Option.some.inj ho
            obtain rfl := Option.some.inj hd
            have e0 : a'.tmps.getD 32 undef = (Value.pointer (some ⟨kb, 0, none⟩)) := hdeps 2 (by decide) 32 rfl
            have e1 : a'.tmps.getD 33 undef = .agg #[.string y.paper, .string y.person] := hdeps 3 (by decide) 33 rfl
            have e2 : a'.tmps.getD 34 undef = (Value.int .i64 tm) := hdeps 4 (by decide) 34 rfl
            clear hoth hdeps hdf hts ho
            refine wp_via (fun K' hK => ?_)
            have HK := Lib.hid hK
            clear hK
            go_simp
            refine (HSD.out wx hg).mono ?_
            rintro e w4 ⟨rfl, hw4⟩
            exact HK.out _ _ ⟨_, rfl, hg.trans hw4, hw4, rfl⟩
          · obtain rfl := Option.some.inj ho
            obtain rfl := Option.some.inj hd
            have e0 : a'.tmps.getD 31 undef = .agg #[.string y.paper, .string y.person] := hdeps 1 (by decide) 31 rfl
            have e1 : a'.tmps.getD 35 undef = .int .i64 z := hdeps 5 (by decide) 35 rfl
            have e0' : a'.tmps[31]?.getD undef = .agg #[.string y.paper, .string y.person] := by rw [← Array.getD_eq_getD_getElem?]; exact e0
            have e1' : a'.tmps[35]?.getD undef = .int .i64 z := by rw [← Array.getD_eq_getD_getElem?]; exact e1
            clear hoth hdeps hdf hts ho
            refine wp_via (fun K' hK => ?_)
            have HK := Lib.hid hK
            clear hK
            go_simp
            exact HK.out _ _ ⟨_, rfl, hg, Kept.refl _ _, rfl⟩
          · obtain rfl := Option.some.inj ho
            obtain rfl := Option.some.inj hd
            have e0 : a'.tmps.getD 36 undef = .agg #[.string y.paper, .string y.person, .int .i64 z] := hdeps 6 (by decide) 36 rfl
            have e0' : a'.tmps[36]?.getD undef = .agg #[.string y.paper, .string y.person, .int .i64 z] := by rw [← Array.getD_eq_getD_getElem?]; exact e0
            clear hoth hdeps hdf hts ho
            refine wp_via (fun K' hK => ?_)
            have HK := Lib.hid hK
            clear hK
            go_simp
            exact HK.out _ _ ⟨_, rfl, hg.then_alloc _, Kept.alloc _ _ _, ⟨wx.heap.size, rfl, heap_at _ _ _ rfl⟩⟩
        · intro wx f hg hd
          have e30 : f 30 = (Value.slice oa m oc) := hd 0 30 (by decide) rfl
          obtain ⟨nb, e37, hnb⟩ : QRow #[.string y.paper, .string y.person, .int .i64 z] 68 (f 37) wx := hd 7 37 (by decide) rfl
          rw [show dsts _ 8 = [30, 31, 32, 33, 34, 35, 36, 37] from by kernel_rfl]
          simp only [List.map_cons, List.map_nil, puts, Act.put, e30, e37, List.drop_succ_cons, List.drop_zero]
          generalize f 31 = f31
          generalize f 32 = f32
          generalize f 33 = f33
          generalize f 34 = f34
          generalize f 35 = f35
          generalize f 36 = f36
          clear hd e30 e37
          simp only [List.setIfInBounds_toArray, List.set_cons_zero, List.set_cons_succ]
          rw [HM.out] at hmk ⊢
          have hszx := hg.size
          go_wp2_with (at_builtin; refine wp_append1 RStd.ok _ rfl _ _ 60 rfl w2.heap.size 68 (.agg #[.string ⟨#[]⟩, .string ⟨#[]⟩, .int .i64 0]) 3 40 Tryz.underlying60 (by kernel_rfl) rfl (by decide) (fun _ => False) _ (standsF s ts tm (s.pairs.take k)) rfl (hac1.keepAll RStd.ok hg) ⟨nb, 0, none⟩ 1 [.string y.paper, .string y.person, .int .i64 z] rfl rfl (World.news_of_block hnb) (by simp [Value.oneCell']) ⟨y.paper, y.person, z⟩ ⟨rfl, ⟨hyz1, hyz2⟩⟩ (by omega) (by decide) (by omega) ?_)
          intro p9 c9 w9 hacc9 hg9 _
          have hk9 := Lib.hid ((hwa.trans hg).grown hg9 (fun j hj => Or.inl (hac1.lt j hj).1))
          have hfin := Lib.hid hacc9
          clear hacc9 hg9 hac1 hnb hg hwa
          go_wp2_with fail
          go_roundw
          case rel => exact ⟨k + 1, by omega, by go_num, by rw [HY.out, standOf, ← HZ.out]; exact hfin.out, hk9.out⟩
          case measure => simp [intOf]; omega
      · have hd9 : decide ((k : Int) < (l2 : Int)) = false := by simp; omega
        have hkl : k = l2 := by omega
        obtain ⟨pa, pc, rfl, hsl⟩ := stdSl hacc
        have HE := Lib.hid (show s.pairs.take k = s.pairs from List.take_of_length_le (by have := HPL.out; omega))
        have HSL := Lib.hid hsl
        clear hacc hsl
        go_wp2_with fail
        go_ret2
        refine ⟨⟨fun _ => ?_, fun h => absurd rfl h⟩, HK1.out.trans (hw2.trans hwr)⟩
        have h9 := HSL.out
        rw [HE.out] at h9 ⊢
        exact ⟨pa, pc, rfl, h9⟩

set_option maxHeartbeats 1600000 in
theorem equalStd_same (a1 : Option Addr) (l1 c1 : Nat) (a2 : Option Addr) (l2 c2 : Nat) (cs : List Std3) (w : World) (h1 : Sl RStd 3 (fun _ => True) w a1 l1 cs) (h2 : Sl RStd 3 (fun _ => True) w a2 l2 cs) (hl : l1 ≤ 1000000) :
    Calls Tryz.prog 27 #[.slice a1 l1 c1, .slice a2 l2 c2] w fun e w' => e = .returned (.bool true) ∧ All w w' := by
  have e1 := h1.len
  have e2 := h2.len
  have e3 : l2 = l1 := by omega
  subst e3
  clear e1 e2
  go_enter Tryz.func27, Tryz.ntmps27
  go_wp2_with fail
  go_loopw [13] (fun i wr => ∃ k : Nat, k ≤ l2 ∧ i = .int .i64 k ∧ All w wr) (fun i _ => l2 - (intOf i).toNat)
  case atStart => exact ⟨0, Nat.zero_le _, rfl, Kept.refl _ _⟩
  case round =>
    obtain ⟨k, hk, rfl, hall⟩ := hrel
    by_cases hlt : k < l2
    · obtain ⟨b1, o1, y1, ha1, -, p0, p1, p2, -, hy1, -⟩ := (h1.keep RStd.ok hall).atStd hlt
      obtain ⟨b2, o2, y2, ha2, -, q0, q1, q2, -, hy2, -⟩ := (h2.keep RStd.ok hall).atStd hlt
      have hy : y2 = y1 := by rw [hy1] at hy2; injection hy2 with hy2; exact hy2.symm
      subst hy
      subst ha1
      subst ha2
      clear h1 h2 hy1 hy2
      go_wp2_with fail
      go_quiet (fail)
      go_wp2_with fail
      go_roundw
      case rel => exact ⟨k + 1, by omega, by go_num, hall.then_drewN _⟩
      case measure => simp [intOf]; omega
    · have hd : decide ((k : Int) < (l2 : Int)) = false := by simp; omega
      go_wp2_with fail
      go_ret
      exact ⟨rfl, hall⟩

set_option maxHeartbeats 1600000 in
theorem equalPair_same (a1 : Option Addr) (l1 c1 : Nat) (a2 : Option Addr) (l2 c2 : Nat) (cs : List Pair2) (w : World) (h1 : Sl RPair 2 (fun _ => True) w a1 l1 cs) (h2 : Sl RPair 2 (fun _ => True) w a2 l2 cs) (hl : l1 ≤ 1000000) :
    Calls Tryz.prog 29 #[.slice a1 l1 c1, .slice a2 l2 c2] w fun e w' => e = .returned (.bool true) ∧ All w w' := by
  have e1 := h1.len
  have e2 := h2.len
  have e3 : l2 = l1 := by omega
  subst e3
  clear e1 e2
  go_enter Tryz.func29, Tryz.ntmps29
  go_wp2_with fail
  go_loopw [13] (fun i wr => ∃ k : Nat, k ≤ l2 ∧ i = .int .i64 k ∧ All w wr) (fun i _ => l2 - (intOf i).toNat)
  case atStart => exact ⟨0, Nat.zero_le _, rfl, Kept.refl _ _⟩
  case round =>
    obtain ⟨k, hk, rfl, hall⟩ := hrel
    by_cases hlt : k < l2
    · obtain ⟨b1, o1, y1, ha1, -, p0, p1, hy1, -, -⟩ := (h1.keep RPair.ok hall).atPair hlt
      obtain ⟨b2, o2, y2, ha2, -, q0, q1, hy2, -, -⟩ := (h2.keep RPair.ok hall).atPair hlt
      have hy : y2 = y1 := by rw [hy1] at hy2; injection hy2 with hy2; exact hy2.symm
      subst hy
      subst ha1
      subst ha2
      clear h1 h2 hy1 hy2
      go_wp2_with fail
      go_quiet (fail)
      go_wp2_with fail
      go_roundw
      case rel => exact ⟨k + 1, by omega, by go_num, hall.then_drewN _⟩
      case measure => simp [intOf]; omega
    · have hd : decide ((k : Int) < (l2 : Int)) = false := by simp; omega
      go_wp2_with fail
      go_ret
      exact ⟨rfl, hall⟩
end Go.Proofs.YthhmgblcccbdaaaGreatDoor
