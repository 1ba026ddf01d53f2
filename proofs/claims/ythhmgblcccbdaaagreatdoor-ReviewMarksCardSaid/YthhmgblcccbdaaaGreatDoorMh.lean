/- How far the review of a pair is: the method stand; at. -/
import Derived.Test.YthhmgblcccbdaaaGreatDoorRt
import Derived.Test.YthhmgblcccbdaaaGreatDoorRs
import Derived.Test.YthhmgblcccbdaaaGreatDoorBg
import Derived.Test.YthhmgblcccbdaaaGreatDoorAc
namespace Go.Proofs.YthhmgblcccbdaaaGreatDoor
open Go.RowKit

noncomputable def standF (s : Set7) (ts : List Raw) (q : K2) (tm : Int) : Int :=
 if (lastO ts q tm true).isSome = true then 3 else if s.due ≤ tm then 4 else if (lastO ts q tm false).isSome = true then 2 else 1
def AtV (er : Int) (cs : Array Value) (ts : List Raw) (e : Ending) (w' : World) : Prop :=
 (er = 0 → ∃ kb, e = .returned (.tuple #[.pointer (some ⟨kb, 0, none⟩), .int .i64 0]) ∧ BookIs w' kb cs ts) ∧ (er ≠ 0 → e = .returned (.tuple #[.pointer none, .int .i64 er]))
theorem AtV.bad {er : Int} {cs : Array Value} {ts : List Raw} {w' : World} (h : er ≠ 0) : AtV er cs ts (.returned (.tuple #[.pointer none, .int .i64 er])) w' := ⟨fun h0 => absurd h0 h, fun _ => rfl⟩

end Go.Proofs.YthhmgblcccbdaaaGreatDoor

/- Stands; StandsOf; Equal of stands and of pairs. -/
namespace Go.Proofs.YthhmgblcccbdaaaGreatDoor
open Go.RowKit

structure Std3 where
 paper : ByteArray
 person : ByteArray
 state : Int
def StdSmall (x : Std3) : Prop := x.paper.size ≤ 1000000 ∧ x.person.size ≤ 1000000
def encStd (x : Std3) : List Value := [.string x.paper, .string x.person, .int .i64 x.state]
def RStd : Rel Std3 := fun _ _ vs x => vs = encStd x ∧ StdSmall x
theorem flatStd : Flat RStd encStd StdSmall 3 :=
 ⟨fun _ _ _ _ => Iff.rfl, fun _ => rfl, by decide, fun x u hu => by simp [encStd] at hu; rcases hu with rfl | rfl | rfl <;> rfl⟩
theorem RStd.ok : RStd.Ok := Flat.ok flatStd
theorem Sl.atStd {F : Nat → Prop} {w : World} {a : Option Addr} {len : Nat} {xs : List Std3} (h : Sl RStd 3 F w a len xs) {k : Nat} (hk : k < len) :
  ∃ b off x, a = some ⟨b, off, none⟩ ∧ F b ∧ w.cell? ⟨b, off + k * 3, none⟩ = some (.string x.paper) ∧ w.cell? ⟨b, off + k * 3 + 1, none⟩ = some (.string x.person) ∧ w.cell? ⟨b, off + k * 3 + 2, none⟩ = some (.int .i64 x.state) ∧ StdSmall x ∧ xs[k]? = some x ∧ xs.take (k + 1) = xs.take k ++ [x] := by
 obtain ⟨b, off, vs, x, ha, hF, h1, h2, ⟨rfl, hsm⟩, h4, h5, h6⟩ := h.at hk
 exact ⟨b, off, x, ha, hF, (h2 0 (by simp [encStd])).trans rfl, (h2 1 (by simp [encStd])).trans rfl, (h2 2 (by simp [encStd])).trans rfl, hsm, h4, h6⟩
noncomputable def standOf (s : Set7) (ts : List Raw) (tm : Int) (p : Pair2) : Std3 := ⟨p.paper, p.person, standF s ts (p.paper, p.person) tm⟩
noncomputable def standsF (s : Set7) (ts : List Raw) (tm : Int) (ps : List Pair2) : List Std3 := ps.map (standOf s ts tm)
theorem standsF_succ {s : Set7} {ts : List Raw} {tm : Int} {ps : List Pair2} {k : Nat} {y : Pair2} (h : ps.take (k + 1) = ps.take k ++ [y]) : standsF s ts tm (ps.take (k + 1)) = standsF s ts tm (ps.take k) ++ [standOf s ts tm y] := by rw [h, standsF, List.map_append]; rfl
theorem standsF_len (s : Set7) (ts : List Raw) (tm : Int) (ps : List Pair2) : (standsF s ts tm ps).length = ps.length := by simp [standsF]
theorem stdSl {B : Nat} {w : World} {v : Value} {xs : List Std3} (h : Acc RStd 3 68 (fun _ => False) B w v xs) : ∃ (p : Option Addr) (c : Nat), v = .slice p xs.length c ∧ Sl RStd 3 (fun _ => True) w p xs.length xs := by
 obtain ⟨p, c, hv, h1⟩ := h.sl RStd.ok (by decide) (G := fun _ => True) (fun _ h => h.elim) (fun _ _ => trivial)
 exact ⟨p, c, hv, h1⟩

end Go.Proofs.YthhmgblcccbdaaaGreatDoor

/- StandsOf. -/
namespace Go.Proofs.YthhmgblcccbdaaaGreatDoor
open Go.RowKit

theorem valid_box (a : Option Addr) (len cap : Nat) (ts : List Raw) (p : K2) (tm : Int) (w : World) (hs : Sl RRaw 7 (fun _ => True) w a len ts) (hl : len ≤ 1000000) :
  ∃ (x : Rev) (aa : Option Addr) (ac : Nat), Calls Tryz.prog 65 #[.slice a len cap, .agg #[.string p.1, .string p.2], .int .i64 tm] w fun e w' => e = .returned (.tuple #[.agg (revC x aa ac), .bool (lastO ts p tm true).isSome]) ∧ All w w' :=
 ⟨_, _, _, valid_any a len cap ts p tm w hs hl⟩
theorem latestOf_box (a : Option Addr) (len cap : Nat) (ts : List Raw) (p : K2) (tm : Int) (w : World) (hs : Sl RRaw 7 (fun _ => True) w a len ts) (hl : len ≤ 1000000) :
  ∃ (x : Rev) (aa : Option Addr) (ac : Nat), Calls Tryz.prog 23 #[.slice a len cap, .agg #[.string p.1, .string p.2], .int .i64 tm] w fun e w' => e = .returned (.tuple #[.agg (revC x aa ac), .bool (lastO ts p tm false).isSome]) ∧ All w w' :=
 ⟨_, _, _, latestOf_any a len cap ts p tm w hs hl⟩

set_option maxRecDepth 100000 in
set_option maxHeartbeats 12800000 in
theorem standsOf_any (a0 : Option Addr) (l0 c0 : Nat) (a1 : Option Addr) (l1 c1 : Nat) (a2 : Option Addr) (l2 c2 : Nat) (a3 : Option Addr) (l3 c3 : Nat) (a4 : Option Addr) (l4 c4 : Nat) (s : Set7) (al : Option Addr) (ll cl : Nat) (ts : List Raw) (tm : Int) (w : World) (his : SetIs (fun _ => True) w a0 l0 a1 l1 a2 l2 a3 l3 a4 l4 s) (hst : Sl RRaw 7 (fun _ => True) w al ll ts) (hl : ll ≤ 1000000) :
  Calls Tryz.prog 28 #[.agg #[.slice a0 l0 c0, .slice a1 l1 c1, .slice a2 l2 c2, .slice a3 l3 c3, .slice a4 l4 c4, .int .i64 s.due, .int .i64 s.reply], .slice al ll cl, .int .i64 tm] w fun e w' => (∃ (p : Option Addr) (c : Nat), e = .returned (.slice p s.pairs.length c) ∧ Sl RStd 3 (fun _ => True) w' p s.pairs.length (standsF s ts tm s.pairs)) ∧ All w w' := by
 have hk1 : All w (w.alloc (.cells #[.slice a0 l0 c0, .slice a1 l1 c1, .slice a2 l2 c2, .slice a3 l3 c3, .slice a4 l4 c4, .int .i64 s.due, .int .i64 s.reply] 31)) := Kept.alloc _ _ _
 have hb := heap_at w (.cells #[.slice a0 l0 c0, .slice a1 l1 c1, .slice a2 l2 c2, .slice a3 l3 c3, .slice a4 l4 c4, .int .i64 s.due, .int .i64 s.reply] 31) _ rfl
 obtain ⟨bb, hbb⟩ : ∃ b, b = w.heap.size := ⟨_, rfl⟩
 have HBB := Lib.hid hbb
 rw [← hbb] at hb
 have HBL := Lib.hid (fun (wx : World) (k : All (w.alloc (.cells #[.slice a0 l0 c0, .slice a1 l1 c1, .slice a2 l2 c2, .slice a3 l3 c3, .slice a4 l4 c4, .int .i64 s.due, .int .i64 s.reply] 31)) wx) => k.heap hb trivial)
 have HPS := Lib.hid (fun (wx : World) (k : All (w.alloc (.cells #[.slice a0 l0 c0, .slice a1 l1 c1, .slice a2 l2 c2, .slice a3 l3 c3, .slice a4 l4 c4, .int .i64 s.due, .int .i64 s.reply] 31)) wx) => his.pairs.keep RPair.ok (hk1.trans k))
 have HST := Lib.hid (fun (wx : World) (k : All (w.alloc (.cells #[.slice a0 l0 c0, .slice a1 l1 c1, .slice a2 l2 c2, .slice a3 l3 c3, .slice a4 l4 c4, .int .i64 s.due, .int .i64 s.reply] 31)) wx) => hst.keep RRaw.ok (hk1.trans k))
 have HPL := Lib.hid his.pairs.len
 have hl2 := his.n2
 have HK1 := Lib.hid hk1
 have e0 := cell_at (i := 0) hb rfl
 have e1 := cell_at (i := 1) hb rfl
 have e2 := cell_at (i := 2) hb rfl
 have e3 := cell_at (i := 3) hb rfl
 have e4 := cell_at (i := 4) hb rfl
 have e5 := cell_at (i := 5) hb rfl
 have e6 := cell_at (i := 6) hb rfl
 clear hbb hb his hst hk1
 go_enter Tryz.func28, Tryz.ntmps28
 go_upto_region 1 with fail
 simp only [← HBB.out]
 generalize w.alloc (.cells #[.slice a0 l0 c0, .slice a1 l1 c1, .slice a2 l2 c2, .slice a3 l3 c3, .slice a4 l4 c4, .int .i64 s.due, .int .i64 s.reply] 31) = w1 at *
 go_wp2_with fail
 clear e0 e1 e2 e3 e4 e5 e6
 go_loopw [7, 18] (fun o i wr => ∃ k : Nat, k ≤ l2 ∧ i = .int .i64 k ∧ Acc RStd 3 68 (fun _ => False) w1.heap.size wr o (standsF s ts tm (s.pairs.take k)) ∧ All w1 wr) (fun _ i _ => l2 - (intOf i).toNat)
 case atStart => exact ⟨0, Nat.zero_le _, rfl, Acc.nil _ _ _ _ _ _, Kept.refl _ _⟩
 case round =>
  obtain ⟨k, hk, rfl, hacc, hwr⟩ := hrel
  obtain ⟨wo, rfl⟩ : ∃ wo : World, wo = wr := ⟨_, rfl⟩
  by_cases hlt : k < l2
  ·have hwo := hwr
   obtain ⟨b, off, y, ha, -, c0, c1, -, -, htk⟩ := (HPS.out wo hwr).atPair hlt
   subst ha
   have HY := Lib.hid (standsF_succ (s := s) (ts := ts) (tm := tm) htk)
   have hyz1 := y.h1
   have hyz2 := y.h2
   have hko : All wo (wo.alloc (.cells #[.string y.paper, .string y.person] 38)) := Kept.alloc _ _ _
   have hblk := heap_at wo (.cells #[.string y.paper, .string y.person] 38) _ rfl
   obtain ⟨yb, hyb⟩ : ∃ q, q = wo.heap.size := ⟨_, rfl⟩
   have HYB := Lib.hid hyb
   rw [← hyb] at hblk
   have hac1 := hacc.keepAll RStd.ok hko
   have hwa := hwr.trans hko
   obtain ⟨oa, oc, rfl, hoc⟩ := hac1.form
   have hmk : (standsF s ts tm (s.pairs.take k)).length ≤ k := by rw [standsF_len]; exact List.length_take_le _ _
   clear htk hyb hacc hwr hko hwo
   go_upto_region 5 with fail
   simp only [← HYB.out]
   generalize wo.alloc (.cells #[.string y.paper, .string y.person] 38) = wa at *
   clear c0 c1
   have HBX := Lib.hid (fun (wx : World) (k : All wa wx) => k.heap hblk trivial)
   obtain ⟨x1, aa1, ac1, hv1⟩ := valid_box al ll cl ts (y.paper, y.person) tm wa (HST.out _ hwa) hl
   have HV1 := Lib.hid hv1
   have HV2 := Lib.hid (fun (wx : World) (k : All wa wx) => latestOf_box al ll cl ts (y.paper, y.person) tm wx (HST.out _ (hwa.trans k)) hl)
   obtain ⟨d1, hd1⟩ : ∃ d, d = (lastO ts (y.paper, y.person) tm true).isSome := ⟨_, rfl⟩
   obtain ⟨d2, hd2⟩ : ∃ d, d = (lastO ts (y.paper, y.person) tm false).isSome := ⟨_, rfl⟩
   have HSF := Lib.hid (show standF s ts (y.paper, y.person) tm = if d1 = true then 3 else if s.due ≤ tm then 4 else if d2 = true then 2 else 1 from by rw [standF, hd1, hd2])
   rw [← hd1] at HV1
   rw [← hd2] at HV2
   have q0 := cell_at (i := 0) hblk rfl
   have q1 := cell_at (i := 1) hblk rfl
   clear hblk hd1 hd2 hv1
   go_wp2_with fail
   refine HV1.out.mono ?_
   rintro e w3 ⟨rfl, hw3⟩
   have hw4 : All wa (w3.alloc (.cells (revC x1 aa1 ac1) 45)) := hw3.then_alloc _
   have hb4 := HBX.out _ hw4
   clear q0 q1
   have q0 := cell_at (i := 0) hb4 rfl
   have q1 := cell_at (i := 1) hb4 rfl
   clear hb4
   obtain ⟨x2, aa2, ac2, hv2⟩ := HV2.out _ hw4
   have HV3 := Lib.hid hv2
   clear hv2
   go_wp2_with fail
   refine HV3.out.mono ?_
   rintro e w5 ⟨rfl, hw5⟩
   have hw6 : All wa (w5.alloc (.cells (revC x2 aa2 ac2) 45)) := (hw4.trans hw5).then_alloc _
   have hb6 := HBX.out _ hw6
   clear q0 q1
   have q0 := cell_at (i := 0) hb6 rfl
   have q1 := cell_at (i := 1) hb6 rfl
   clear hb6
   have hw7 : All wa ((w5.alloc (.cells (revC x2 aa2 ac2) 45)).alloc (.cells #[.string y.paper, .string y.person, .int .i64 1] 68)) := hw6.then_alloc _
   obtain ⟨sb, hsb⟩ : ∃ q, q = w5.heap.size + 1 := ⟨_, rfl⟩
   have HSB := Lib.hid hsb
   have hs7 := heap_at (w5.alloc (.cells (revC x2 aa2 ac2) 45)) (.cells #[.string y.paper, .string y.person, .int .i64 1] 68) sb (by simp [hsb])
   have hb1 := HBL.out _ (hwa.trans hw7)
   have g5 := cell_at (i := 5) hb1 rfl
   clear hb1
   have hac7 := (hac1.keepAll RStd.ok hw7)
   have hsbn : w1.heap.size ≤ sb := by have := (hwa.trans (hw4.trans hw5)).size; omega
   have hno : ∀ j, (Value.slice oa (standsF s ts tm (s.pairs.take k)).length oc).ownBlock = some j → j ≠ sb := fun j hj e => by have := ((hac1.keepAll RStd.ok (hw4.trans hw5)).lt j hj).2; omega
   clear hac1 hsb
   go_upto_region 8 with fail
   simp only [← HSB.out]
   generalize (w5.alloc (.cells (revC x2 aa2 ac2) 45)).alloc (.cells #[.string y.paper, .string y.person, .int .i64 1] 68) = w7 at *
   clear q0 q1
   cases d1 with
   | true =>
    have g6 := cell_at (i := 2) hs7 rfl
    have g7 := frozen_at (i := 2) hs7
    have hs8 : (w7.setCell ⟨sb, 2, none⟩ (.int .i64 3)).heap[sb]? = some (.cells #[.string y.paper, .string y.person, .int .i64 3] 68 (0, 0)) := by simpa using heap_setCell_at w7 sb 2 (.int .i64 3) _ _ _ hs7
    have hk8 : All w1 (w7.setCell ⟨sb, 2, none⟩ (.int .i64 3)) := (hwa.trans hw7).then_setNew _ _ hsbn
    have hac8 := hac7.keep RStd.ok (Kept.setCell (F := fun j => j ≠ sb) w7 ⟨sb, 2, none⟩ (.int .i64 3) (fun h => h rfl)) (fun _ h => h.elim) hno
    have u0 := cell_at (i := 0) hs8 rfl
    have u1 := cell_at (i := 1) hs8 rfl
    have u2 := cell_at (i := 2) hs8 rfl
    have HFX := Lib.hid (show standsF s ts tm (s.pairs.take (k + 1)) = standsF s ts tm (s.pairs.take k) ++ [⟨y.paper, y.person, 3⟩] from by rw [HY.out, standOf, HSF.out, if_pos (by simp)])
    have hz8 := (hwa.trans hw7).size
    clear hs7 hs8 hac7 hw7
    go_wp2_with (at_builtin; refine wp_append1 RStd.ok _ rfl _ _ 60 rfl w1.heap.size 68 (.agg #[.string ⟨#[]⟩, .string ⟨#[]⟩, .int .i64 0]) 3 40 Tryz.underlying60 (by kernel_rfl) rfl (by decide) (fun _ => False) _ (standsF s ts tm (s.pairs.take k)) rfl (hac8.keepAll RStd.ok (Kept.alloc _ _ _)) ⟨_, 0, none⟩ 1 [.string y.paper, .string y.person, .int .i64 3] rfl rfl (World.news_of_block (cs := #[.string y.paper, .string y.person, .int .i64 3]) (heap_at _ _ _ (by simp))) (by simp [Value.oneCell']) ⟨y.paper, y.person, 3⟩ ⟨rfl, ⟨hyz1, hyz2⟩⟩ (by omega) (by decide) (by simp; omega) ?_)
    intro p9 c9 w9 hacc9 hg9 _
    have hk9 := Lib.hid ((hk8.then_alloc _).grown hg9 (fun j hj => Or.inl (hac8.lt j hj).1))
    have hfin := Lib.hid hacc9
    clear hacc9 hg9 hac8 u0 u1 u2
    go_wp2_with fail
    go_roundw
    case rel => exact ⟨k + 1, by omega, by go_num, by rw [HFX.out]; exact hfin.out, hk9.out⟩
    case measure => simp [intOf]; omega
   | false =>
    by_cases hdue : s.due ≤ tm
    case pos =>
     have hd : decide (s.due ≤ tm) = true := by simpa using hdue
     have HD := Lib.hid hdue
     clear hdue
     have g6 := cell_at (i := 2) hs7 rfl
     have g7 := frozen_at (i := 2) hs7
     have hs8 : (w7.setCell ⟨sb, 2, none⟩ (.int .i64 4)).heap[sb]? = some (.cells #[.string y.paper, .string y.person, .int .i64 4] 68 (0, 0)) := by simpa using heap_setCell_at w7 sb 2 (.int .i64 4) _ _ _ hs7
     have hk8 : All w1 (w7.setCell ⟨sb, 2, none⟩ (.int .i64 4)) := (hwa.trans hw7).then_setNew _ _ hsbn
     have hac8 := hac7.keep RStd.ok (Kept.setCell (F := fun j => j ≠ sb) w7 ⟨sb, 2, none⟩ (.int .i64 4) (fun h => h rfl)) (fun _ h => h.elim) hno
     have u0 := cell_at (i := 0) hs8 rfl
     have u1 := cell_at (i := 1) hs8 rfl
     have u2 := cell_at (i := 2) hs8 rfl
     have HFX := Lib.hid (show standsF s ts tm (s.pairs.take (k + 1)) = standsF s ts tm (s.pairs.take k) ++ [⟨y.paper, y.person, 4⟩] from by rw [HY.out, standOf, HSF.out, if_neg (by simp), if_pos (by have := HD.out; omega)])
     have hz8 := (hwa.trans hw7).size
     clear hs7 hs8 hac7 hw7
     go_wp2_with (at_builtin; refine wp_append1 RStd.ok _ rfl _ _ 60 rfl w1.heap.size 68 (.agg #[.string ⟨#[]⟩, .string ⟨#[]⟩, .int .i64 0]) 3 40 Tryz.underlying60 (by kernel_rfl) rfl (by decide) (fun _ => False) _ (standsF s ts tm (s.pairs.take k)) rfl (hac8.keepAll RStd.ok (Kept.alloc _ _ _)) ⟨_, 0, none⟩ 1 [.string y.paper, .string y.person, .int .i64 4] rfl rfl (World.news_of_block (cs := #[.string y.paper, .string y.person, .int .i64 4]) (heap_at _ _ _ (by simp))) (by simp [Value.oneCell']) ⟨y.paper, y.person, 4⟩ ⟨rfl, ⟨hyz1, hyz2⟩⟩ (by omega) (by decide) (by simp; omega) ?_)
     intro p9 c9 w9 hacc9 hg9 _
     have hk9 := Lib.hid ((hk8.then_alloc _).grown hg9 (fun j hj => Or.inl (hac8.lt j hj).1))
     have hfin := Lib.hid hacc9
     clear hacc9 hg9 hac8 u0 u1 u2
     go_wp2_with fail
     go_roundw
     case rel => exact ⟨k + 1, by omega, by go_num, by rw [HFX.out]; exact hfin.out, hk9.out⟩
     case measure => simp [intOf]; omega
    case neg =>
     have hd : decide (s.due ≤ tm) = false := by simpa using hdue
     have HD := Lib.hid hdue
     clear hdue
     cases d2 with
     | true =>
      have g6 := cell_at (i := 2) hs7 rfl
      have g7 := frozen_at (i := 2) hs7
      have hs8 : (w7.setCell ⟨sb, 2, none⟩ (.int .i64 2)).heap[sb]? = some (.cells #[.string y.paper, .string y.person, .int .i64 2] 68 (0, 0)) := by simpa using heap_setCell_at w7 sb 2 (.int .i64 2) _ _ _ hs7
      have hk8 : All w1 (w7.setCell ⟨sb, 2, none⟩ (.int .i64 2)) := (hwa.trans hw7).then_setNew _ _ hsbn
      have hac8 := hac7.keep RStd.ok (Kept.setCell (F := fun j => j ≠ sb) w7 ⟨sb, 2, none⟩ (.int .i64 2) (fun h => h rfl)) (fun _ h => h.elim) hno
      have u0 := cell_at (i := 0) hs8 rfl
      have u1 := cell_at (i := 1) hs8 rfl
      have u2 := cell_at (i := 2) hs8 rfl
      have HFX := Lib.hid (show standsF s ts tm (s.pairs.take (k + 1)) = standsF s ts tm (s.pairs.take k) ++ [⟨y.paper, y.person, 2⟩] from by rw [HY.out, standOf, HSF.out, if_neg (by simp), if_neg (by have := HD.out; omega), if_pos (by simp)])
      have hz8 := (hwa.trans hw7).size
      clear hs7 hs8 hac7 hw7
      go_wp2_with (at_builtin; refine wp_append1 RStd.ok _ rfl _ _ 60 rfl w1.heap.size 68 (.agg #[.string ⟨#[]⟩, .string ⟨#[]⟩, .int .i64 0]) 3 40 Tryz.underlying60 (by kernel_rfl) rfl (by decide) (fun _ => False) _ (standsF s ts tm (s.pairs.take k)) rfl (hac8.keepAll RStd.ok (Kept.alloc _ _ _)) ⟨_, 0, none⟩ 1 [.string y.paper, .string y.person, .int .i64 2] rfl rfl (World.news_of_block (cs := #[.string y.paper, .string y.person, .int .i64 2]) (heap_at _ _ _ (by simp))) (by simp [Value.oneCell']) ⟨y.paper, y.person, 2⟩ ⟨rfl, ⟨hyz1, hyz2⟩⟩ (by omega) (by decide) (by simp; omega) ?_)
      intro p9 c9 w9 hacc9 hg9 _
      have hk9 := Lib.hid ((hk8.then_alloc _).grown hg9 (fun j hj => Or.inl (hac8.lt j hj).1))
      have hfin := Lib.hid hacc9
      clear hacc9 hg9 hac8 u0 u1 u2
      go_wp2_with fail
      go_roundw
      case rel => exact ⟨k + 1, by omega, by go_num, by rw [HFX.out]; exact hfin.out, hk9.out⟩
      case measure => simp [intOf]; omega
     | false =>
      have hs8 := hs7
      have hk8 := hwa.trans hw7
      have hac8 := hac7
      have u0 := cell_at (i := 0) hs8 rfl
      have u1 := cell_at (i := 1) hs8 rfl
      have u2 := cell_at (i := 2) hs8 rfl
      have HFX := Lib.hid (show standsF s ts tm (s.pairs.take (k + 1)) = standsF s ts tm (s.pairs.take k) ++ [⟨y.paper, y.person, 1⟩] from by rw [HY.out, standOf, HSF.out, if_neg (by simp), if_neg (by have := HD.out; omega), if_neg (by simp)])
      have hz8 := (hwa.trans hw7).size
      clear hs7 hs8 hac7 hw7
      go_wp2_with (at_builtin; refine wp_append1 RStd.ok _ rfl _ _ 60 rfl w1.heap.size 68 (.agg #[.string ⟨#[]⟩, .string ⟨#[]⟩, .int .i64 0]) 3 40 Tryz.underlying60 (by kernel_rfl) rfl (by decide) (fun _ => False) _ (standsF s ts tm (s.pairs.take k)) rfl (hac8.keepAll RStd.ok (Kept.alloc _ _ _)) ⟨_, 0, none⟩ 1 [.string y.paper, .string y.person, .int .i64 1] rfl rfl (World.news_of_block (cs := #[.string y.paper, .string y.person, .int .i64 1]) (heap_at _ _ _ (by simp))) (by simp [Value.oneCell']) ⟨y.paper, y.person, 1⟩ ⟨rfl, ⟨hyz1, hyz2⟩⟩ (by omega) (by decide) (by simp; omega) ?_)
      intro p9 c9 w9 hacc9 hg9 _
      have hk9 := Lib.hid ((hk8.then_alloc _).grown hg9 (fun j hj => Or.inl (hac8.lt j hj).1))
      have hfin := Lib.hid hacc9
      clear hacc9 hg9 hac8 u0 u1 u2
      go_wp2_with fail
      go_roundw
      case rel => exact ⟨k + 1, by omega, by go_num, by rw [HFX.out]; exact hfin.out, hk9.out⟩
      case measure => simp [intOf]; omega
  ·have hd9 : decide ((k : Int) < (l2 : Int)) = false := by simp; omega
   have hkl : k = l2 := by omega
   have HE := Lib.hid (show s.pairs.take k = s.pairs from List.take_of_length_le (by have := HPL.out; omega))
   rw [HE.out] at hacc
   obtain ⟨pa, pc, rfl, hsl⟩ := stdSl hacc
   have HSL := Lib.hid hsl
   clear hacc hsl
   go_wp2_with fail
   go_ret
   rw [standsF_len] at HSL ⊢
   exact ⟨⟨pa, pc, rfl, HSL.out⟩, HK1.out.trans hwr⟩
end Go.Proofs.YthhmgblcccbdaaaGreatDoor

/- The reviews that count, pair by pair. -/
namespace Go.Proofs.YthhmgblcccbdaaaGreatDoor
open Go.RowKit

noncomputable def doneL (ts : List Raw) (tm : Int) (ps : List Pair2) : List Raw := ps.filterMap (fun p => lastO ts (p.paper, p.person) tm true)
theorem doneL_snoc {ts : List Raw} {tm : Int} {ps : List Pair2} {k : Nat} {y : Pair2} (h : ps.take (k + 1) = ps.take k ++ [y]) : doneL ts tm (ps.take (k + 1)) = doneL ts tm (ps.take k) ++ (lastO ts (y.paper, y.person) tm true).toList := by
 rw [h, doneL, List.filterMap_append]
 cases ho : lastO ts (y.paper, y.person) tm true <;> simp [doneL, ho]
theorem doneL_len (ts : List Raw) (tm : Int) (ps : List Pair2) : (doneL ts tm ps).length ≤ ps.length := List.length_filterMap_le _ _
theorem rawSl {B mb : Nat} {w : World} {v : Value} {xs : List Raw} (h : Acc RRaw 7 45 (fun _ => False) B w v xs) (hb : mb < B) : ∃ (p : Option Addr) (c : Nat), v = .slice p xs.length c ∧ Sl RRaw 7 (fun k => k ≠ mb) w p xs.length xs := by
 obtain ⟨p, c, hv, h1⟩ := h.sl RRaw.ok (by decide) (G := fun k => k ≠ mb) (fun _ h => h.elim) (fun k hk => by have := (h.lt k hk).1; omega)
 exact ⟨p, c, hv, h1⟩
set_option maxRecDepth 100000 in
set_option maxHeartbeats 12800000 in
theorem bookValid_any (a0 : Option Addr) (l0 c0 : Nat) (a1 : Option Addr) (l1 c1 : Nat) (a2 : Option Addr) (l2 c2 : Nat) (a3 : Option Addr) (l3 c3 : Nat) (a4 : Option Addr) (l4 c4 : Nat) (s : Set7) (kb : Nat) (ts : List Raw) (hts : ts.length ≤ 1000000) (hsm : ∀ z ∈ ts, RevSmall z.1) (tm : Int) (w : World) (hb : BookIs w kb #[.slice a0 l0 c0, .slice a1 l1 c1, .slice a2 l2 c2, .slice a3 l3 c3, .slice a4 l4 c4, .int .i64 s.due, .int .i64 s.reply] ts) (hps : Sl RPair 2 (fun _ => True) w a2 l2 s.pairs) (hl2 : l2 ≤ 1000000) :
  Calls Tryz.prog 68 #[.pointer (some ⟨kb, 0, none⟩), .int .i64 tm] w fun e w' => (∃ v, e = .returned v ∧ Acc RRaw 7 45 (fun _ => False) w.heap.size w' v (doneL ts tm s.pairs)) ∧ All w w' := by
 have HPL := Lib.hid hps.len
 have HBK := Lib.hid (fun (wx : World) (k : All w wx) => hb.keep k)
 have HPS := Lib.hid (fun (wx : World) (k : All w wx) => hps.keep RPair.ok k)
 have HSM := Lib.hid hsm
 obtain ⟨mb, B0, n0, vs0, hkb, -⟩ := hb
 have e2 := cell_at (i := 2) hkb rfl
 clear hps hsm hkb
 go_enter Tryz.func68, Tryz.ntmps68
 go_wp2_with fail
 clear e2
 go_loopw [5, 16] (fun o i wr => ∃ k : Nat, k ≤ l2 ∧ i = .int .i64 k ∧ Acc RRaw 7 45 (fun _ => False) w.heap.size wr o (doneL ts tm (s.pairs.take k)) ∧ All w wr) (fun _ i _ => l2 - (intOf i).toNat)
 case atStart => exact ⟨0, Nat.zero_le _, rfl, Acc.nil _ _ _ _ _ _, Kept.refl _ _⟩
 case round =>
  obtain ⟨k, hk, rfl, hacc, hwr⟩ := hrel
  obtain ⟨wo, rfl⟩ : ∃ wo : World, wo = wr := ⟨_, rfl⟩
  by_cases hlt : k < l2
  ·obtain ⟨b, off, y, ha, -, c0, c1, -, -, htk⟩ := (HPS.out wo hwr).atPair hlt
   subst ha
   have HY := Lib.hid (doneL_snoc (ts := ts) (tm := tm) htk)
   have hyz1 := y.h1
   have hyz2 := y.h2
   have hko : All wo (wo.alloc (.cells #[.string y.paper, .string y.person] 38)) := Kept.alloc _ _ _
   have hblk := heap_at wo (.cells #[.string y.paper, .string y.person] 38) _ rfl
   obtain ⟨yb, hyb⟩ : ∃ q, q = wo.heap.size := ⟨_, rfl⟩
   have HYB := Lib.hid hyb
   rw [← hyb] at hblk
   have hac1 := hacc.keepAll RRaw.ok hko
   have hwa := hwr.trans hko
   obtain ⟨oa, oc, rfl, hoc⟩ := hac1.form
   have hmk : (doneL ts tm (s.pairs.take k)).length ≤ k := Nat.le_trans (doneL_len _ _ _) (List.length_take_le _ _)
   clear htk hyb hacc hwr hko
   go_upto_region 5 with fail
   simp only [← HYB.out]
   generalize wo.alloc (.cells #[.string y.paper, .string y.person] 38) = wa at *
   clear c0 c1
   obtain ⟨o, ho⟩ : ∃ z, z = lastO ts (y.paper, y.person) tm true := ⟨_, rfl⟩
   have HO := Lib.hid ho
   have HLA := Lib.hid (last_any kb _ (by rfl) ts hts (y.paper, y.person) ⟨hyz1, hyz2⟩ tm true wa (HBK.out wa hwa))
   rw [← ho] at HLA HY
   clear ho
   have q0 := cell_at (i := 0) hblk rfl
   have q1 := cell_at (i := 1) hblk rfl
   clear hblk
   go_wp2_with fail
   refine HLA.out.mono ?_
   rintro e w3 ⟨rfl, hw3⟩
   clear q0 q1
   obtain ⟨⟨x, aa, ac⟩, hx⟩ : ∃ z, z = o.getD raw0 := ⟨_, rfl⟩
   have HX := Lib.hid hx
   rw [← hx]
   rw [show (encRaw (x, aa, ac)).toArray = revC x aa ac from rfl]
   clear hx
   have hk4 : All w3 (w3.alloc (.cells (revC x aa ac) 45)) := Kept.alloc _ _ _
   have hr4 := heap_at w3 (.cells (revC x aa ac) 45) _ rfl
   obtain ⟨rb, hrb⟩ : ∃ b, b = w3.heap.size := ⟨_, rfl⟩
   have HRB := Lib.hid hrb
   rw [← hrb] at hr4
   have hw4 := hwa.trans (hw3.trans hk4)
   have hac4 := hac1.keepAll RRaw.ok (hw3.trans hk4)
   clear hrb hac1 hwa hw3 hk4
   go_upto_region 6 with fail
   simp only [← HRB.out]
   generalize w3.alloc (.cells (revC x aa ac) 45) = w4 at *
   cases o with
   | none =>
    have HY2 := Lib.hid (show doneL ts tm (s.pairs.take (k + 1)) = doneL ts tm (s.pairs.take k) from by rw [HY.out]; simp)
    have hfin := Lib.hid hac4
    clear hac4 hr4
    go_wp2_with fail
    go_roundw
    case rel => exact ⟨k + 1, by omega, by go_num, by rw [HY2.out]; exact hfin.out, hw4⟩
    case measure => simp [intOf]; omega
   | some z =>
    have hz : z = (x, aa, ac) := HX.out.symm
    subst hz
    have HY2 := Lib.hid (show doneL ts tm (s.pairs.take (k + 1)) = doneL ts tm (s.pairs.take k) ++ [(x, aa, ac)] from by rw [HY.out]; rfl)
    have HSX := Lib.hid (HSM.out _ (lastO_mem HO.out.symm))
    have u0 := cell_at (i := 0) hr4 rfl
    have u1 := cell_at (i := 1) hr4 rfl
    have u2 := cell_at (i := 2) hr4 rfl
    have u3 := cell_at (i := 3) hr4 rfl
    have u4 := cell_at (i := 4) hr4 rfl
    have u5 := cell_at (i := 5) hr4 rfl
    have u6 := cell_at (i := 6) hr4 rfl
    clear hr4
    have hz4 := hw4.size
    go_wp2_with (at_builtin; refine wp_append1 RRaw.ok _ rfl _ _ 32 rfl w.heap.size 45 (.agg #[.int .i64 0, .int .i64 0, .string ⟨#[]⟩, .string ⟨#[]⟩, .string ⟨#[]⟩, .bool false, .slice none 0 0]) 7 96 Tryz.underlying32 (by kernel_rfl) rfl (by decide) (fun _ => False) _ (doneL ts tm (s.pairs.take k)) rfl (hac4.keepAll RRaw.ok (Kept.alloc _ _ _)) ⟨_, 0, none⟩ 1 [.int .i64 x.no, .int .i64 x.tm, .string x.paper, .string x.person, .string x.by_, .bool x.done, .slice aa x.answers.length ac] rfl rfl (World.news_of_block (cs := #[.int .i64 x.no, .int .i64 x.tm, .string x.paper, .string x.person, .string x.by_, .bool x.done, .slice aa x.answers.length ac]) (heap_at _ _ _ (by simp))) (by simp [Value.oneCell']) (x, aa, ac) ⟨rfl, HSX.out⟩ (by omega) (by decide) (by simp; omega) ?_)
    intro p9 c9 w9 hacc9 hg9 _
    have hk9 := Lib.hid ((hw4.then_alloc _).grown hg9 (fun j hj => Or.inl (hac4.lt j hj).1))
    have hfin := Lib.hid hacc9
    clear hacc9 hg9 hac4 u0 u1 u2 u3 u4 u5 u6
    go_wp2_with fail
    go_roundw
    case rel => exact ⟨k + 1, by omega, by go_num, by rw [HY2.out]; exact hfin.out, hk9.out⟩
    case measure => simp [intOf]; omega
  ·have hd8 : decide ((k : Int) < (l2 : Int)) = false := by simp; omega
   have HE2 := Lib.hid (show s.pairs.take k = s.pairs from List.take_of_length_le (by have := HPL.out; omega))
   rw [HE2.out] at hacc
   have HSL := Lib.hid hacc
   clear hacc
   go_wp2_with fail
   go_ret
   exact ⟨⟨_, rfl, HSL.out⟩, hwr⟩
end Go.Proofs.YthhmgblcccbdaaaGreatDoor

/- Full. -/
namespace Go.Proofs.YthhmgblcccbdaaaGreatDoor
open Go.RowKit

def cntZ (zs : List Raw) (p : ByteArray) : Nat := (zs.filter (fun z => decide (z.1.paper = p))).length
def cntV (zs : List Raw) : ByteArray → Option Value := fun p => if cntZ zs p = 0 then none else some (.int .i64 (cntZ zs p))
theorem cntZ_snoc (zs : List Raw) (z : Raw) (p : ByteArray) : cntZ (zs ++ [z]) p = if z.1.paper = p then cntZ zs p + 1 else cntZ zs p := by
 by_cases h : z.1.paper = p <;> simp [cntZ, List.filter_append, h]
theorem cntZ_len (zs : List Raw) (p : ByteArray) : cntZ zs p ≤ zs.length := List.length_filter_le _ _
theorem cntV_get (zs : List Raw) (p : ByteArray) : (cntV zs p).getD (.int .i64 0) = .int .i64 (cntZ zs p) := by
 by_cases h : cntZ zs p = 0 <;> simp [cntV, h]
theorem cntV_put (zs : List Raw) (z : Raw) : putS (cntV zs) z.1.paper (.int .i64 ((cntZ zs z.1.paper : Int) + 1)) = cntV (zs ++ [z]) := by
 funext p
 by_cases h : p = z.1.paper
 ·subst h
  rw [putS_same, cntV, cntZ_snoc, if_pos rfl, if_neg (by omega)]
  rfl
 ·simp only [putS_other h, cntV, cntZ_snoc, if_neg (show ¬ z.1.paper = p from fun e => h e.symm)]
noncomputable def fullE (s : Set7) (xs : List Rev) (mn tm : Int) : Int := if revsF s xs ≠ 0 then revsF s xs else if mn < 0 ∨ 10 < mn then 1 else if 0 ≤ tm ∧ tm < 5761440 then 0 else 1
noncomputable def fullP (zs : List Raw) (mn : Int) (ps : List Pap) : List ByteArray := (ps.filter (fun x => decide (mn ≤ (cntZ zs x.id : Int)))).map (·.id)
theorem fullP_snoc {zs : List Raw} {mn : Int} {ps : List Pap} {k : Nat} {x : Pap} (h : ps.take (k + 1) = ps.take k ++ [x]) : fullP zs mn (ps.take (k + 1)) = if mn ≤ (cntZ zs x.id : Int) then fullP zs mn (ps.take k) ++ [x.id] else fullP zs mn (ps.take k) := by
 rw [h, fullP, List.filter_append, List.map_append]
 by_cases h3 : mn ≤ (cntZ zs x.id : Int) <;> simp [fullP, h3]
theorem fullP_len (zs : List Raw) (mn : Int) (ps : List Pap) : (fullP zs mn ps).length ≤ ps.length := by rw [fullP, List.length_map]; exact List.length_filter_le _ _
def StrV (er : Int) (xs : List ByteArray) (e : Ending) (w' : World) : Prop :=
 (er = 0 → ∃ (p : Option Addr) (c : Nat), e = .returned (.tuple #[.slice p xs.length c, .int .i64 0]) ∧ Sl RStr 1 (fun _ => True) w' p xs.length xs) ∧ (er ≠ 0 → e = .returned (.tuple #[.slice none 0 0, .int .i64 er]))
theorem StrV.bad {er : Int} {xs : List ByteArray} {w' : World} (h : er ≠ 0) : StrV er xs (.returned (.tuple #[.slice none 0 0, .int .i64 er])) w' := ⟨fun h0 => absurd h0 h, fun _ => rfl⟩
theorem strSl {B : Nat} {w : World} {v : Value} {xs : List ByteArray} (h : Acc RStr 1 9 (fun _ => False) B w v xs) : ∃ (p : Option Addr) (c : Nat), v = .slice p xs.length c ∧ Sl RStr 1 (fun _ => True) w p xs.length xs := by
 obtain ⟨p, c, hv, h1⟩ := h.sl RStr.ok (by decide) (G := fun _ => True) (fun _ h => h.elim) (fun _ _ => trivial)
 exact ⟨p, c, hv, h1⟩
set_option maxRecDepth 100000 in
set_option maxHeartbeats 12800000 in
theorem full_any (a0 : Option Addr) (l0 c0 : Nat) (a1 : Option Addr) (l1 c1 : Nat) (a2 : Option Addr) (l2 c2 : Nat) (a3 : Option Addr) (l3 c3 : Nat) (a4 : Option Addr) (l4 c4 : Nat) (s : Set7) (al : Option Addr) (ll cl : Nat) (xs : List Rev) (ts : List Raw) (mn tm : Int) (w : World) (his : SetIs (fun _ => True) w a0 l0 a1 l1 a2 l2 a3 l3 a4 l4 s) (hsx : Sl RRev 7 (fun _ => True) w al ll xs) (hst : Sl RRaw 7 (fun _ => True) w al ll ts) (hsm : ∀ z ∈ ts, RevSmall z.1) (hl : ll ≤ 1000000) (hlc : ll ≤ cl) (hg : Glob w) :
  Calls Tryz.prog 31 #[.agg #[.slice a0 l0 c0, .slice a1 l1 c1, .slice a2 l2 c2, .slice a3 l3 c3, .slice a4 l4 c4, .int .i64 s.due, .int .i64 s.reply], .slice al ll cl, .int .i64 mn, .int .i64 tm] w fun e w' => StrV (fullE s xs mn tm) (fullP (doneL ts tm s.pairs) mn s.papers) e w' ∧ All w w' := by
 have hk1 : All w (w.alloc (.cells #[.slice a0 l0 c0, .slice a1 l1 c1, .slice a2 l2 c2, .slice a3 l3 c3, .slice a4 l4 c4, .int .i64 s.due, .int .i64 s.reply] 31)) := Kept.alloc _ _ _
 have hb := heap_at w (.cells #[.slice a0 l0 c0, .slice a1 l1 c1, .slice a2 l2 c2, .slice a3 l3 c3, .slice a4 l4 c4, .int .i64 s.due, .int .i64 s.reply] 31) _ rfl
 obtain ⟨bb, hbb⟩ : ∃ b, b = w.heap.size := ⟨_, rfl⟩
 have HBB := Lib.hid hbb
 rw [← hbb] at hb
 have HBL := Lib.hid (fun (wx : World) (k : All (w.alloc (.cells #[.slice a0 l0 c0, .slice a1 l1 c1, .slice a2 l2 c2, .slice a3 l3 c3, .slice a4 l4 c4, .int .i64 s.due, .int .i64 s.reply] 31)) wx) => k.heap hb trivial)
 have HCK := Lib.hid (check_any a0 l0 c0 a1 l1 c1 a2 l2 c2 a3 l3 c3 a4 l4 c4 s al ll cl xs _ (his.keep hk1) (hsx.keep RRev.ok hk1) hl hlc (hg.keep hk1))
 have HBO := Lib.hid (fun (wx : World) (k : All (w.alloc (.cells #[.slice a0 l0 c0, .slice a1 l1 c1, .slice a2 l2 c2, .slice a3 l3 c3, .slice a4 l4 c4, .int .i64 s.due, .int .i64 s.reply] 31)) wx) => bookOf_any a0 l0 c0 a1 l1 c1 a2 l2 c2 a3 l3 c3 a4 l4 c4 s al ll cl ts wx (hst.keep RRaw.ok (hk1.trans k)) hl)
 have HIS := Lib.hid (fun (wx : World) (k : All (w.alloc (.cells #[.slice a0 l0 c0, .slice a1 l1 c1, .slice a2 l2 c2, .slice a3 l3 c3, .slice a4 l4 c4, .int .i64 s.due, .int .i64 s.reply] 31)) wx) => his.keep (hk1.trans k))
 have HTL : ts.length ≤ 1000000 := by have := hst.len; omega
 have HSM := Lib.hid hsm
 have HN1 := Lib.hid his.papers.len
 have HN2 := Lib.hid his.pairs.len
 have hn1 := his.n1
 have hn2 := his.n2
 obtain ⟨er, her⟩ : ∃ z, z = fullE s xs mn tm := ⟨_, rfl⟩
 have HER := Lib.hid her
 obtain ⟨ef, hef⟩ : ∃ z, z = revsF s xs := ⟨_, rfl⟩
 have HEF := Lib.hid hef
 have HE := Lib.hid (show er = if ef ≠ 0 then ef else if mn < 0 ∨ 10 < mn then 1 else if 0 ≤ tm ∧ tm < 5761440 then 0 else 1 from by rw [her, fullE, hef])
 rw [← her]
 obtain ⟨zs, hzs⟩ : ∃ z, z = doneL ts tm s.pairs := ⟨_, rfl⟩
 have HZS := Lib.hid hzs
 have HZL := Lib.hid (show zs.length ≤ s.pairs.length from by rw [hzs]; exact doneL_len _ _ _)
 rw [← hzs]
 have HK1 := Lib.hid hk1
 have e0 := cell_at (i := 0) hb rfl
 have e1 := cell_at (i := 1) hb rfl
 have e2 := cell_at (i := 2) hb rfl
 have e3 := cell_at (i := 3) hb rfl
 have e4 := cell_at (i := 4) hb rfl
 have e5 := cell_at (i := 5) hb rfl
 have e6 := cell_at (i := 6) hb rfl
 clear her hef hzs hbb hb his hsx hst hsm hg hk1
 go_enter Tryz.func31, Tryz.ntmps31
 go_upto_region 1 with fail
 simp only [← HBB.out]
 generalize w.alloc (.cells #[.slice a0 l0 c0, .slice a1 l1 c1, .slice a2 l2 c2, .slice a3 l3 c3, .slice a4 l4 c4, .int .i64 s.due, .int .i64 s.reply] 31) = w1 at *
 go_wp2_with fail
 refine HCK.out.mono ?_
 rintro e w2 ⟨rfl, hw2⟩
 rw [← HEF.out]
 clear e0 e1 e2 e3 e4 e5 e6
 by_cases h0 : ef = 0
 case neg =>
  have hd : (ef != 0) = true := by simpa using h0
  have HE2 := Lib.hid (show er = ef from by rw [HE.out, if_pos h0])
  have H0 := Lib.hid h0
  clear h0
  go_wp2_with fail
  go_ret2
  exact ⟨by rw [HE2.out]; exact StrV.bad H0.out, HK1.out.trans hw2⟩
 case pos =>
  subst h0
  have hd : ((0 : Int) != 0) = false := rfl
  go_wp2_with fail
  refine (outside_any mn 0 10 _).mono ?_
  rintro e w' ⟨rfl, rfl⟩
  by_cases hmn : mn < 0 ∨ 10 < mn
  case pos =>
   rw [decide_eq_true hmn]
   have HE2 := Lib.hid (show er = 1 from by rw [HE.out, if_neg (by simp), if_pos hmn])
   clear hmn
   go_wp2_with fail
   go_ret2
   exact ⟨by rw [HE2.out]; exact StrV.bad (by decide), HK1.out.trans hw2⟩
  case neg =>
   rw [decide_eq_false hmn]
   have HE1 := Lib.hid (show er = if 0 ≤ tm ∧ tm < 5761440 then 0 else 1 from by rw [HE.out, if_neg (by simp), if_neg hmn])
   have hmn1 : 0 ≤ mn ∧ mn ≤ 10 := by omega
   obtain ⟨hmn2, hmn3⟩ := hmn1
   clear hmn
   go_wp2_with fail
   refine (isMoment_any tm _).mono ?_
   rintro e w' ⟨rfl, rfl⟩
   by_cases hm : 0 ≤ tm ∧ tm < 5761440
   case neg =>
    rw [decide_eq_false hm]
    have HE2 := Lib.hid (show er = 1 from by rw [HE1.out, if_neg hm])
    clear hm
    go_wp2_with fail
    go_ret2
    exact ⟨by rw [HE2.out]; exact StrV.bad (by decide), HK1.out.trans hw2⟩
   case pos =>
    rw [decide_eq_true hm]
    have HE2 := Lib.hid (show er = 0 from by rw [HE1.out, if_pos hm])
    have hmm := @run_makeMap Tryz.prog
    have hmp := MapS.made Tryz.prog 9 w2
    have hkm : All w2 (w2.alloc (.map #[] 0)) := Kept.alloc _ _ _
    obtain ⟨mb, hmb⟩ : ∃ q, q = w2.heap.size := ⟨_, rfl⟩
    have HMB := Lib.hid hmb
    have hmlt : mb < (w2.alloc (.map #[] 0)).heap.size := by simp [hmb]
    rw [← hmb] at hmp
    have hw3 := hw2.trans hkm
    clear hm hmb hkm
    go_upto_region 7 with fail
    simp only [← HMB.out]
    generalize w2.alloc (.map #[] 0) = w3 at *
    have hb2 := HBL.out _ hw3
    have e0 := cell_at (i := 0) hb2 rfl
    have e1 := cell_at (i := 1) hb2 rfl
    have e2 := cell_at (i := 2) hb2 rfl
    have e3 := cell_at (i := 3) hb2 rfl
    have e4 := cell_at (i := 4) hb2 rfl
    have e5 := cell_at (i := 5) hb2 rfl
    have e6 := cell_at (i := 6) hb2 rfl
    clear hb2 hmm
    go_wp2_with fail
    refine (HBO.out _ hw3).mono ?_
    rintro e w4 ⟨⟨kb, rfl, hbk⟩, hw4⟩
    have hq4 := hw3.trans hw4
    have hmlt4 : mb < w4.heap.size := by have := hw4.size; omega
    have HV := Lib.hid (bookValid_any a0 l0 c0 a1 l1 c1 a2 l2 c2 a3 l3 c3 a4 l4 c4 s kb ts HTL HSM.out tm w4 hbk (HIS.out _ hq4).pairs (by omega))
    rw [← HZS.out] at HV
    have hmp4 := hmp.keep hw4 trivial
    clear e0 e1 e2 e3 e4 e5 e6 hbk hmp hmlt
    go_wp2_with fail
    refine HV.out.mono ?_
    rintro e w5 ⟨⟨v5, rfl, hacc⟩, hw5⟩
    obtain ⟨vp, vc, rfl, hsv⟩ := rawSl hacc hmlt4
    have hq5 := hq4.trans hw5
    have hmp5 := hmp4.keep hw5 trivial
    have HSV := Lib.hid (fun (wx : World) (k : But mb w5 wx) => hsv.keep RRaw.ok k)
    have hmlt5 : mb < w5.heap.size := by have := hw5.size; omega
    obtain ⟨nz, hnz⟩ : ∃ n, n = zs.length := ⟨_, rfl⟩
    have HNZ := Lib.hid hnz
    have hnz2 : nz ≤ 1000000 := by have := HZL.out; have := HN2.out; omega
    rw [← hnz] at HSV ⊢
    clear hacc hsv hmp4 hnz hq4
    go_wp2_with fail
    go_loopw [37] (fun i wr => ∃ k : Nat, k ≤ nz ∧ i = .int .i64 k ∧ ∃ n, n ≤ k ∧ MapS Tryz.prog 9 wr mb n (cntV (zs.take k)) ∧ But mb w5 wr) (fun i _ => nz - (intOf i).toNat)
    case atStart => exact ⟨0, Nat.zero_le _, rfl, 0, Nat.zero_le _, hmp5.congr (fun _ => by simp [cntV, cntZ]), Kept.refl _ _⟩
    case round =>
     clear hmp5
     obtain ⟨k, hk, rfl, n, hnk, hsc, hwr⟩ := hrel
     obtain ⟨wo, rfl⟩ : ∃ wo : World, wo = wr := ⟨_, rfl⟩
     by_cases hlt : k < nz
     ·obtain ⟨b, off, z, ha, -, q0, q1, q2, q3, q4, q5, q6, hzsm, -, htk⟩ := (HSV.out _ hwr).atRaw hlt
      subst ha
      have hzp : z.1.paper.size ≤ 1000000 := hzsm.1
      have hcl : cntZ (zs.take k) z.1.paper ≤ k := Nat.le_trans (cntZ_len _ _) (List.length_take_le _ _)
      have hwa := hwr.then_alloc (.cells #[.int .i64 z.1.no, .int .i64 z.1.tm, .string z.1.paper, .string z.1.person, .string z.1.by_, .bool z.1.done, .slice z.2.1 z.1.answers.length z.2.2] 45)
      have hblk := heap_at wo (.cells #[.int .i64 z.1.no, .int .i64 z.1.tm, .string z.1.paper, .string z.1.person, .string z.1.by_, .bool z.1.done, .slice z.2.1 z.1.answers.length z.2.2] 45) _ rfl
      have u2 := cell_at (i := 2) hblk rfl
      have hsca : MapS Tryz.prog 9 (wo.alloc (.cells #[.int .i64 z.1.no, .int .i64 z.1.tm, .string z.1.paper, .string z.1.person, .string z.1.by_, .bool z.1.done, .slice z.2.1 z.1.answers.length z.2.2] 45)) mb n (cntV (zs.take k)) := hsc.keep (Kept.alloc (fun _ => True) _ _) trivial
      have l1 := hsca.look Tryz.underlying9 Tryz.underlying116 (Tryz.zeroValue3 _) z.1.paper hzp
      rw [cntV_get] at l1
      obtain ⟨w8, hput, hm8, hb8⟩ := hsca.put Tryz.underlying9 Tryz.underlying116 (by omega) z.1.paper hzp (.int .i64 ((cntZ (zs.take k) z.1.paper : Int) + 1))
      rw [cntV_put, ← htk] at hm8
      obtain ⟨cn, hcn⟩ : ∃ c, c = cntZ (zs.take k) z.1.paper := ⟨_, rfl⟩
      rw [← hcn] at l1 hput hcl
      have f1 : IntKind.i64.wrap ((cn : Int) + 1) = (cn : Int) + 1 := IntWalk.i64_in _ (by omega)
      have hk8 := hwa.trans hb8
      clear hcn hzsm htk hsc hwr hb8 hblk hsca hwa hq5
      go_wp2_with fail
      go_roundw
      case rel => exact ⟨k + 1, by omega, by go_num, n + 1, by omega, hm8, hk8⟩
      case measure => simp [intOf]; omega
     ·have hdk : decide ((k : Int) < (nz : Int)) = false := by simp; omega
      have HE3 := Lib.hid (show zs.take k = zs from List.take_of_length_le (by have := HNZ.out; omega))
      rw [HE3.out] at hsc
      have hmw1 : w1.heap.size ≤ mb := by have := hw2.size; have := HMB.out; omega
      have hw6 : All w1 wo := ⟨hwr.os.trans hq5.os, hwr.tape.trans hq5.tape, hwr.output.trans hq5.output, Nat.le_trans hq5.size hwr.size, fun q hq _ => (hwr.block q (Nat.lt_of_lt_of_le hq hq5.size) (by omega)).trans (hq5.block q hq trivial)⟩
      have hb6 := HBL.out _ hw6
      have g1 := cell_at (i := 1) hb6 rfl
      have HMS := Lib.hid (fun (wx : World) (k : All wo wx) => hsc.keep k trivial)
      clear hb6 hwr hsc hq5 hmw1
      go_wp2_with fail
      obtain ⟨w7, hw7e⟩ : ∃ x : World, x = wo := ⟨_, rfl⟩
      subst hw7e
      clear g1
      go_loopw [14, 50] (fun o i wr => ∃ j : Nat, j ≤ l1 ∧ i = .int .i64 j ∧ Acc RStr 1 9 (fun _ => False) w7.heap.size wr o (fullP zs mn (s.papers.take j)) ∧ All w7 wr) (fun _ i _ => l1 - (intOf i).toNat)
      case atStart => exact ⟨0, Nat.zero_le _, rfl, Acc.nil _ _ _ _ _ _, Kept.refl _ _⟩
      case round =>
       obtain ⟨j, hj, rfl, hacc, hwr⟩ := hrel
       obtain ⟨wp, rfl⟩ : ∃ wp : World, wp = wr := ⟨_, rfl⟩
       by_cases hlt2 : j < l1
       ·obtain ⟨b, off, x, aa, ac, ta, tc, ha, -, p0, p1, p2, p3, p4, -, -, hxs, -, -, -, htk⟩ := (HIS.out _ (hw6.trans hwr)).papers.atPap hlt2
        subst ha
        have HY := Lib.hid (fullP_snoc (zs := zs) (mn := mn) htk)
        have hxi : x.id.size ≤ 1000000 := hxs.1
        have hmk : (fullP zs mn (s.papers.take j)).length ≤ j := Nat.le_trans (fullP_len _ _ _) (List.length_take_le _ _)
        have hcz : cntZ zs x.id ≤ nz := by have := cntZ_len zs x.id; have := HNZ.out; omega
        have hko : All wp (wp.alloc (.cells #[.string x.id, .string x.track, .string x.title, .slice aa x.authors.length ac, .slice ta x.topics.length tc] 119)) := Kept.alloc _ _ _
        have hblk := heap_at wp (.cells #[.string x.id, .string x.track, .string x.title, .slice aa x.authors.length ac, .slice ta x.topics.length tc] 119) _ rfl
        have hac1 := hacc.keepAll RStr.ok hko
        have hwa := hwr.trans hko
        obtain ⟨oa, oc, rfl, hoc⟩ := hac1.form
        obtain ⟨yb, hyb⟩ : ∃ q, q = wp.heap.size := ⟨_, rfl⟩
        have HYB := Lib.hid hyb
        rw [← hyb] at hblk
        clear htk hxs hacc hwr hko hyb
        go_upto_region 16 with fail
        simp only [← HYB.out]
        generalize wp.alloc (.cells #[.string x.id, .string x.track, .string x.title, .slice aa x.authors.length ac, .slice ta x.topics.length tc] 119) = wa at *
        have u0 := cell_at (i := 0) hblk rfl
        have l1' := (HMS.out _ hwa).look Tryz.underlying9 Tryz.underlying116 (Tryz.zeroValue3 _) x.id hxi
        rw [cntV_get] at l1'
        obtain ⟨cn, hcn⟩ : ∃ c, c = cntZ zs x.id := ⟨_, rfl⟩
        have HCN := Lib.hid hcn
        rw [← hcn] at l1' hcz
        clear hcn p0 p1 p2 p3 p4
        by_cases hge : mn ≤ (cn : Int)
        case pos =>
         have HY2 := Lib.hid (show fullP zs mn (s.papers.take (j + 1)) = fullP zs mn (s.papers.take j) ++ [x.id] from by rw [HY.out, if_pos (by rw [← HCN.out]; exact hge)])
         have hdg : decide (mn ≤ (cn : Int)) = true := decide_eq_true hge
         have hza := hwa.size
         clear hge
         go_wp2_with (at_builtin; refine wp_append1 RStr.ok _ rfl _ _ 29 rfl w7.heap.size 9 (.string ⟨#[]⟩) 1 16 Tryz.underlying29 (by kernel_rfl) rfl (by decide) (fun _ => False) _ (fullP zs mn (s.papers.take j)) rfl (hac1.keepAll RStr.ok (Kept.alloc _ _ _)) ⟨_, 0, none⟩ 1 [.string x.id] rfl rfl (World.news_of_block (cs := #[.string x.id]) (heap_at _ _ _ (by simp))) (by simp [Value.oneCell']) x.id ⟨rfl, hxi⟩ (by omega) (by decide) (by simp; omega) ?_)
         intro p9 c9 w9 hacc9 hg9 _
         have hk9 := Lib.hid ((hwa.then_alloc _).grown hg9 (fun j hj => Or.inl (hac1.lt j hj).1))
         have hfin := Lib.hid hacc9
         clear hacc9 hg9 hac1 u0 hwa
         go_wp2_with fail
         go_roundw
         case rel => exact ⟨j + 1, by omega, by go_num, by rw [HY2.out]; exact hfin.out, hk9.out⟩
         case measure => simp [intOf]; omega
        case neg =>
         have HY2 := Lib.hid (show fullP zs mn (s.papers.take (j + 1)) = fullP zs mn (s.papers.take j) from by rw [HY.out, if_neg (by rw [← HCN.out]; exact hge)])
         have hdg : decide (mn ≤ (cn : Int)) = false := decide_eq_false hge
         have hfin := Lib.hid hac1
         clear hge hac1
         go_wp2_with fail
         go_roundw
         case rel => exact ⟨j + 1, by omega, by go_num, by rw [HY2.out]; exact hfin.out, hwa⟩
         case measure => simp [intOf]; omega
       ·have hd8 : decide ((j : Int) < (l1 : Int)) = false := by simp; omega
        have HE4 := Lib.hid (show s.papers.take j = s.papers from List.take_of_length_le (by have := HN1.out; omega))
        rw [HE4.out] at hacc
        obtain ⟨pa, pc, rfl, hsl⟩ := strSl hacc
        have HSL := Lib.hid hsl
        clear hacc hsl
        go_wp2_with fail
        go_ret2
        exact ⟨by rw [HE2.out]; exact ⟨fun _ => ⟨pa, pc, rfl, HSL.out⟩, fun h => absurd rfl h⟩, HK1.out.trans (hw6.trans hwr)⟩
end Go.Proofs.YthhmgblcccbdaaaGreatDoor

/- FullOf. -/
namespace Go.Proofs.YthhmgblcccbdaaaGreatDoor
open Go.RowKit

theorem flag_any (is : Bool) (w : World) : Calls Tryz.prog 77 #[.bool is] w fun e w' => e = .returned (.int .i64 (if is = true then 1 else 0)) ∧ w = w' := by
 cases is
 ·go_enter Tryz.func77, Tryz.ntmps77
  go_wp2
  go_ret
  exact ⟨rfl, rfl⟩
 ·go_enter Tryz.func77, Tryz.ntmps77
  go_wp2
  go_ret
  exact ⟨rfl, rfl⟩
def doneS (p : ByteArray) (y : Std3) : Bool := decide (y.paper = p) && decide (y.state = 3)
def cntS (ys : List Std3) (p : ByteArray) : Nat := (ys.filter (doneS p)).length
theorem cntS_snoc {ys : List Std3} {k : Nat} {y : Std3} {p : ByteArray} (h : ys.take (k + 1) = ys.take k ++ [y]) : cntS (ys.take (k + 1)) p = if doneS p y = true then cntS (ys.take k) p + 1 else cntS (ys.take k) p := by
 rw [h, cntS, List.filter_append]
 by_cases h3 : doneS p y = true <;> simp [cntS, h3]
theorem cntS_len (ys : List Std3) (p : ByteArray) : cntS ys p ≤ ys.length := List.length_filter_le _ _
theorem lastO_key {ts : List Raw} {p : K2} {tm : Int} {dn : Bool} {z : Raw} (h : lastO ts p tm dn = some z) : z.1.paper = p.1 := by
 rw [lastO] at h
 have h1 := List.mem_of_find?_eq_some h
 rw [List.mem_reverse, bookF, List.mem_filter] at h1
 have h2 := of_decide_eq_true h1.2
 rw [← h2]
theorem standF_3 {s : Set7} {ts : List Raw} {q : K2} {tm : Int} : standF s ts q tm = 3 ↔ (lastO ts q tm true).isSome = true := by
 unfold standF
 by_cases h1 : (lastO ts q tm true).isSome = true
 ·rw [if_pos h1]; simp [h1]
 ·rw [if_neg h1]
  constructor
  ·intro h
   split at h
   ·omega
   ·split at h <;> omega
  ·intro h; exact absurd h h1
theorem cntS_cntZ (s : Set7) (ts : List Raw) (tm : Int) (p : ByteArray) : ∀ ps : List Pair2, cntS (standsF s ts tm ps) p = cntZ (doneL ts tm ps) p
 | [] => rfl
 | y :: ps => by
  have ih := cntS_cntZ s ts tm p ps
  have e1 : standsF s ts tm (y :: ps) = standOf s ts tm y :: standsF s ts tm ps := rfl
  rw [e1]
  cases ho : lastO ts (y.paper, y.person) tm true with
  | none =>
   have e2 : doneL ts tm (y :: ps) = doneL ts tm ps := by simp [doneL, ho]
   have e3 : doneS p (standOf s ts tm y) = false := by
    have : ¬ standF s ts (y.paper, y.person) tm = 3 := fun h => by rw [standF_3, ho] at h; exact nomatch h
    simp [doneS, standOf, this]
   rw [e2, ← ih, cntS, List.filter_cons, e3]; rfl
  | some z =>
   have e2 : doneL ts tm (y :: ps) = z :: doneL ts tm ps := by simp [doneL, ho]
   have hz : z.1.paper = y.paper := lastO_key ho
   have h3 : standF s ts (y.paper, y.person) tm = 3 := standF_3.2 (by rw [ho]; rfl)
   have e3 : doneS p (standOf s ts tm y) = decide (z.1.paper = p) := by simp [doneS, standOf, h3, hz]
   rw [e2, cntZ, cntS, List.filter_cons, List.filter_cons, e3]
   by_cases h : z.1.paper = p
   ·simp only [h, decide_true, if_true, List.length_cons]; rw [← cntZ, ← cntS, ih]
   ·simp only [h, decide_false, Bool.false_eq_true, if_false]; rw [← cntZ, ← cntS, ih]
set_option maxRecDepth 100000 in
set_option maxHeartbeats 12800000 in
theorem fullOf_any (a0 : Option Addr) (l0 c0 : Nat) (a1 : Option Addr) (l1 c1 : Nat) (a2 : Option Addr) (l2 c2 : Nat) (a3 : Option Addr) (l3 c3 : Nat) (a4 : Option Addr) (l4 c4 : Nat) (s : Set7) (al : Option Addr) (ll cl : Nat) (ts : List Raw) (mn tm : Int) (w : World) (his : SetIs (fun _ => True) w a0 l0 a1 l1 a2 l2 a3 l3 a4 l4 s) (hst : Sl RRaw 7 (fun _ => True) w al ll ts) (hl : ll ≤ 1000000) :
  Calls Tryz.prog 37 #[.agg #[.slice a0 l0 c0, .slice a1 l1 c1, .slice a2 l2 c2, .slice a3 l3 c3, .slice a4 l4 c4, .int .i64 s.due, .int .i64 s.reply], .slice al ll cl, .int .i64 mn, .int .i64 tm] w fun e w' => (∃ (p : Option Addr) (c : Nat), e = .returned (.slice p (fullP (doneL ts tm s.pairs) mn s.papers).length c) ∧ Sl RStr 1 (fun _ => True) w' p (fullP (doneL ts tm s.pairs) mn s.papers).length (fullP (doneL ts tm s.pairs) mn s.papers)) ∧ All w w' := by
 have hk1 : All w (w.alloc (.cells #[.slice a0 l0 c0, .slice a1 l1 c1, .slice a2 l2 c2, .slice a3 l3 c3, .slice a4 l4 c4, .int .i64 s.due, .int .i64 s.reply] 31)) := Kept.alloc _ _ _
 have hb := heap_at w (.cells #[.slice a0 l0 c0, .slice a1 l1 c1, .slice a2 l2 c2, .slice a3 l3 c3, .slice a4 l4 c4, .int .i64 s.due, .int .i64 s.reply] 31) _ rfl
 obtain ⟨bb, hbb⟩ : ∃ b, b = w.heap.size := ⟨_, rfl⟩
 have HBB := Lib.hid hbb
 rw [← hbb] at hb
 have HBL := Lib.hid (fun (wx : World) (k : All (w.alloc (.cells #[.slice a0 l0 c0, .slice a1 l1 c1, .slice a2 l2 c2, .slice a3 l3 c3, .slice a4 l4 c4, .int .i64 s.due, .int .i64 s.reply] 31)) wx) => k.heap hb trivial)
 have HIS := Lib.hid (fun (wx : World) (k : All (w.alloc (.cells #[.slice a0 l0 c0, .slice a1 l1 c1, .slice a2 l2 c2, .slice a3 l3 c3, .slice a4 l4 c4, .int .i64 s.due, .int .i64 s.reply] 31)) wx) => his.keep (hk1.trans k))
 have HST := Lib.hid (fun (wx : World) (k : All (w.alloc (.cells #[.slice a0 l0 c0, .slice a1 l1 c1, .slice a2 l2 c2, .slice a3 l3 c3, .slice a4 l4 c4, .int .i64 s.due, .int .i64 s.reply] 31)) wx) => hst.keep RRaw.ok (hk1.trans k))
 have HN1 := Lib.hid his.papers.len
 have HN2 := Lib.hid his.pairs.len
 have hn1 := his.n1
 have hn2 := his.n2
 obtain ⟨zs, hzs⟩ : ∃ z, z = doneL ts tm s.pairs := ⟨_, rfl⟩
 obtain ⟨ys, hys⟩ : ∃ z, z = standsF s ts tm s.pairs := ⟨_, rfl⟩
 have HYS := Lib.hid hys
 have HYL := Lib.hid (show ys.length = s.pairs.length from by rw [hys, standsF_len])
 have HCN := Lib.hid (fun p => (show cntS ys p = cntZ zs p from by rw [hys, hzs, cntS_cntZ]))
 rw [← hzs]
 have HK1 := Lib.hid hk1
 have e0 := cell_at (i := 0) hb rfl
 have e1 := cell_at (i := 1) hb rfl
 have e2 := cell_at (i := 2) hb rfl
 have e3 := cell_at (i := 3) hb rfl
 have e4 := cell_at (i := 4) hb rfl
 have e5 := cell_at (i := 5) hb rfl
 have e6 := cell_at (i := 6) hb rfl
 clear hzs hys hbb hb his hst hk1
 go_enter Tryz.func37, Tryz.ntmps37
 go_upto_region 1 with fail
 simp only [← HBB.out]
 generalize w.alloc (.cells #[.slice a0 l0 c0, .slice a1 l1 c1, .slice a2 l2 c2, .slice a3 l3 c3, .slice a4 l4 c4, .int .i64 s.due, .int .i64 s.reply] 31) = w1 at *
 go_wp2_with fail
 clear e0 e1 e2 e3 e4 e5 e6
 go_loopw [9, 18] (fun o i wr => ∃ j : Nat, j ≤ l1 ∧ i = .int .i64 j ∧ Acc RStr 1 9 (fun _ => False) w1.heap.size wr o (fullP zs mn (s.papers.take j)) ∧ All w1 wr) (fun _ i _ => l1 - (intOf i).toNat)
 case atStart => exact ⟨0, Nat.zero_le _, rfl, Acc.nil _ _ _ _ _ _, Kept.refl _ _⟩
 case round =>
  obtain ⟨j, hj, rfl, hacc, hwr⟩ := hrel
  obtain ⟨wp, rfl⟩ : ∃ wp : World, wp = wr := ⟨_, rfl⟩
  by_cases hlt2 : j < l1
  ·obtain ⟨b, off, x, aa, ac, ta, tc, ha, -, p0, p1, p2, p3, p4, -, -, hxs, -, -, -, htk⟩ := (HIS.out _ hwr).papers.atPap hlt2
   have HA := Lib.hid ha
   have HY := Lib.hid (fullP_snoc (zs := zs) (mn := mn) htk)
   have hxi : x.id.size ≤ 1000000 := hxs.1
   have hmk : (fullP zs mn (s.papers.take j)).length ≤ j := Nat.le_trans (fullP_len _ _ _) (List.length_take_le _ _)
   have hko : All wp (wp.alloc (.cells #[.string x.id, .string x.track, .string x.title, .slice aa x.authors.length ac, .slice ta x.topics.length tc] 119)) := Kept.alloc _ _ _
   have hblk := heap_at wp (.cells #[.string x.id, .string x.track, .string x.title, .slice aa x.authors.length ac, .slice ta x.topics.length tc] 119) _ rfl
   have hac1 := hacc.keepAll RStr.ok hko
   have hwa := hwr.trans hko
   obtain ⟨oa, oc, rfl, hoc⟩ := hac1.form
   obtain ⟨yb, hyb⟩ : ∃ q, q = wp.heap.size := ⟨_, rfl⟩
   have HYB := Lib.hid hyb
   rw [← hyb] at hblk
   clear htk hxs hacc hwr hko hyb
   subst ha
   go_upto_region 5 with fail
   simp only [← HYB.out]
   generalize wp.alloc (.cells #[.string x.id, .string x.track, .string x.title, .slice aa x.authors.length ac, .slice ta x.topics.length tc] 119) = wa at *
   have HPX := Lib.hid (fun (wx : World) (k : All wa wx) => k.heap hblk trivial)
   have hb1 := HBL.out _ hwa
   have e0 := cell_at (i := 0) hb1 rfl
   have e1 := cell_at (i := 1) hb1 rfl
   have e2 := cell_at (i := 2) hb1 rfl
   have e3 := cell_at (i := 3) hb1 rfl
   have e4 := cell_at (i := 4) hb1 rfl
   have e5 := cell_at (i := 5) hb1 rfl
   have e6 := cell_at (i := 6) hb1 rfl
   have HSO := Lib.hid (standsOf_any a0 l0 c0 (some ⟨b, off, none⟩) l1 c1 a2 l2 c2 a3 l3 c3 a4 l4 c4 s al ll cl ts tm _ (HIS.out _ hwa) (HST.out _ hwa) hl)
   clear p0 p1 p2 p3 p4 hb1 hblk
   go_wp2_with fail
   refine HSO.out.mono ?_
   rintro e w4 ⟨⟨sp, sc, rfl, hss⟩, hw4⟩
   rw [← HYS.out, ← HYL.out] at hss
   rw [← HYL.out]
   obtain ⟨ny, hny⟩ : ∃ n, n = ys.length := ⟨_, rfl⟩
   have HNY := Lib.hid hny
   have hny2 : ny ≤ 1000000 := by have := HYL.out; have := HN2.out; omega
   rw [← hny] at hss ⊢
   have HSS := Lib.hid (fun (wx : World) (k : All w4 wx) => hss.keep RStd.ok k)
   have hac4 := hac1.keepAll RStr.ok hw4
   have hwq := hwa.trans hw4
   have HPX4 := Lib.hid (fun (wx : World) (k : All w4 wx) => HPX.out wx (hw4.trans k))
   clear hss hny hac1 hwa hw4 e0 e1 e2 e3 e4 e5 e6
   go_wp2_with fail
   obtain ⟨w5, hw5e⟩ : ∃ q : World, q = w4 := ⟨_, rfl⟩
   subst hw5e
   go_loopw [12, 27] (fun n i wr => ∃ q : Nat, q ≤ ny ∧ i = .int .i64 q ∧ n = .int .i64 (cntS (ys.take q) x.id : Nat) ∧ All w5 wr) (fun _ i _ => ny - (intOf i).toNat)
   case atStart => exact ⟨0, Nat.zero_le _, rfl, rfl, Kept.refl _ _⟩
   case round =>
    obtain ⟨q, hq, rfl, rfl, hwr⟩ := hrel
    obtain ⟨wo, rfl⟩ : ∃ wo : World, wo = wr := ⟨_, rfl⟩
    have hcl : cntS (ys.take q) x.id ≤ q := Nat.le_trans (cntS_len _ _) (List.length_take_le _ _)
    by_cases hlt : q < ny
    ·obtain ⟨b9, off9, y, ha9, -, c0, c1, c2, -, -, htk⟩ := (HSS.out _ hwr).atStd hlt
     subst ha9
     have HY9 := Lib.hid (cntS_snoc (p := x.id) htk)
     obtain ⟨cn, hcn⟩ : ∃ c, c = cntS (ys.take q) x.id := ⟨_, rfl⟩
     rw [← hcn] at hcl HY9
     rw [← hcn]
     have hwn := hwr.then_alloc (.cells #[.string y.paper, .string y.person, .int .i64 y.state] 68)
     have hs9 := heap_at wo (.cells #[.string y.paper, .string y.person, .int .i64 y.state] 68) _ rfl
     have u0 := cell_at (i := 0) hs9 rfl
     have u1 := cell_at (i := 2) hs9 rfl
     have hx9 := HPX4.out _ hwn
     have v0 := cell_at (i := 0) hx9 rfl
     have f1 : IntKind.i64.wrap ((cn : Int) + 1) = (cn : Int) + 1 := IntWalk.i64_in _ (by omega)
     have f0 : IntKind.i64.wrap ((cn : Int) + 0) = (cn : Int) := by rw [Int.add_zero]; exact IntWalk.i64_in _ (by omega)
     clear hcn htk hs9 hx9
     by_cases hp : y.paper = x.id
     case neg =>
      have HN := Lib.hid (show cntS (ys.take (q + 1)) x.id = cn from by rw [HY9.out, if_neg (by simp [doneS, hp])])
      have hd : (y.paper.toList == x.id.toList) = false := bytes_ne hp
      clear hp
      go_wp2_with fail
      refine (flag_any _ _).mono ?_
      rintro e w' ⟨rfl, rfl⟩
      rw [if_neg (by simp)]
      go_wp2_with fail
      go_roundw
      case rel => exact ⟨q + 1, by omega, by go_num, by rw [HN.out], hwn⟩
      case measure => simp [intOf]; omega
     case pos =>
      have hd : (y.paper.toList == x.id.toList) = true := by rw [hp]; simp
      by_cases h3 : y.state = 3
      case neg =>
       have HN := Lib.hid (show cntS (ys.take (q + 1)) x.id = cn from by rw [HY9.out, if_neg (by simp [doneS, h3])])
       have hd3 : (y.state == 3) = false := by simpa using h3
       clear hp h3
       go_wp2_with fail
       refine (flag_any _ _).mono ?_
       rintro e w' ⟨rfl, rfl⟩
       rw [if_neg (by simp)]
       go_wp2_with fail
       go_roundw
       case rel => exact ⟨q + 1, by omega, by go_num, by rw [HN.out], hwn⟩
       case measure => simp [intOf]; omega
      case pos =>
       have HN := Lib.hid (show cntS (ys.take (q + 1)) x.id = cn + 1 from by rw [HY9.out, if_pos (by simp [doneS, h3, hp])])
       have hd3 : (y.state == 3) = true := by simpa using h3
       clear hp h3
       go_wp2_with fail
       refine (flag_any _ _).mono ?_
       rintro e w' ⟨rfl, rfl⟩
       rw [if_pos rfl]
       go_wp2_with fail
       go_roundw
       case rel => exact ⟨q + 1, by omega, by go_num, by rw [HN.out]; rfl, hwn⟩
       case measure => simp [intOf]; omega
    ·have hdk : decide ((q : Int) < (ny : Int)) = false := by simp; omega
     have HE3 := Lib.hid (show ys.take q = ys from List.take_of_length_le (by have := HNY.out; omega))
     rw [HE3.out, HCN.out] at hcl
     rw [HE3.out, HCN.out]
     obtain ⟨cn, hcn⟩ : ∃ c, c = cntZ zs x.id := ⟨_, rfl⟩
     have HC := Lib.hid hcn
     rw [← hcn]
     have hx9 := HPX4.out _ hwr
     have v0 := cell_at (i := 0) hx9 rfl
     have hac5 := hac4.keepAll RStr.ok hwr
     have hwz := hwq.trans hwr
     have hsz := hwz.size
     clear hcn hx9 hac4 hwr hcl hwq
     by_cases hge : mn ≤ (cn : Int)
     case pos =>
      have HY2 := Lib.hid (show fullP zs mn (s.papers.take (j + 1)) = fullP zs mn (s.papers.take j) ++ [x.id] from by rw [HY.out, if_pos (by rw [← HC.out]; exact hge)])
      have hdg : decide (mn ≤ (cn : Int)) = true := decide_eq_true hge
      clear hge
      go_wp2_with (at_builtin; refine wp_append1 RStr.ok _ rfl _ _ 29 rfl w1.heap.size 9 (.string ⟨#[]⟩) 1 16 Tryz.underlying29 (by kernel_rfl) rfl (by decide) (fun _ => False) _ (fullP zs mn (s.papers.take j)) rfl (hac5.keepAll RStr.ok (Kept.alloc _ _ _)) ⟨_, 0, none⟩ 1 [.string x.id] rfl rfl (World.news_of_block (cs := #[.string x.id]) (heap_at _ _ _ (by simp))) (by simp [Value.oneCell']) x.id ⟨rfl, hxi⟩ (by omega) (by decide) (by simp; omega) ?_)
      intro p9 c9 w9 hacc9 hg9 _
      have hk9 := Lib.hid ((hwz.then_alloc _).grown hg9 (fun j hj => Or.inl (hac5.lt j hj).1))
      have hfin := Lib.hid hacc9
      clear hacc9 hg9 hac5 v0 hwz
      go_wp2_with fail
      go_roundw
      case rel => exact ⟨j + 1, by omega, by go_num, by rw [HY2.out]; exact hfin.out, hk9.out⟩
      case measure => simp [intOf]; omega
     case neg =>
      have HY2 := Lib.hid (show fullP zs mn (s.papers.take (j + 1)) = fullP zs mn (s.papers.take j) from by rw [HY.out, if_neg (by rw [← HC.out]; exact hge)])
      have hdg : decide (mn ≤ (cn : Int)) = false := decide_eq_false hge
      have hfin := Lib.hid hac5
      clear hge hac5
      go_wp2_with fail
      go_roundw
      case rel => exact ⟨j + 1, by omega, by go_num, by rw [HY2.out]; exact hfin.out, hwz⟩
      case measure => simp [intOf]; omega
  ·have hd8 : decide ((j : Int) < (l1 : Int)) = false := by simp; omega
   have HE4 := Lib.hid (show s.papers.take j = s.papers from List.take_of_length_le (by have := HN1.out; omega))
   rw [HE4.out] at hacc
   obtain ⟨pa, pc, rfl, hsl⟩ := strSl hacc
   have HSL := Lib.hid hsl
   clear hacc hsl
   go_wp2_with fail
   go_ret
   exact ⟨⟨pa, pc, rfl, HSL.out⟩, HK1.out.trans hwr⟩
end Go.Proofs.YthhmgblcccbdaaaGreatDoor

/- QuestionFault. -/
namespace Go.Proofs.YthhmgblcccbdaaaGreatDoor
open Go.RowKit

def askE (sheet : List Qst) (key : ByteArray) (most : Int) : Int := match sheet.find? (isQ key) with
 | none => 8
 | some q => if most = 0 then (if q.kind = 2 then 0 else 10) else if q.kind = 1 ∧ q.most ≤ most then 0 else 10
set_option maxRecDepth 100000 in
set_option maxHeartbeats 3200000 in
theorem askFault0_any (a0 : Option Addr) (l0 c0 : Nat) (a1 : Option Addr) (l1 c1 : Nat) (a2 : Option Addr) (l2 c2 : Nat) (a3 : Option Addr) (l3 c3 : Nat) (a4 : Option Addr) (l4 c4 : Nat) (s : Set7) (key : ByteArray) (w : World) (his : SetIs (fun _ => True) w a0 l0 a1 l1 a2 l2 a3 l3 a4 l4 s) :
  Calls Tryz.prog 34 #[.agg #[.slice a0 l0 c0, .slice a1 l1 c1, .slice a2 l2 c2, .slice a3 l3 c3, .slice a4 l4 c4, .int .i64 s.due, .int .i64 s.reply], .string key, .int .i64 0] w fun e w' => e = .returned (.int .i64 (askE s.sheet key 0)) ∧ All w w' := by
 have hk1 : All w (w.alloc (.cells #[.slice a0 l0 c0, .slice a1 l1 c1, .slice a2 l2 c2, .slice a3 l3 c3, .slice a4 l4 c4, .int .i64 s.due, .int .i64 s.reply] 31)) := Kept.alloc _ _ _
 have hb := heap_at w (.cells #[.slice a0 l0 c0, .slice a1 l1 c1, .slice a2 l2 c2, .slice a3 l3 c3, .slice a4 l4 c4, .int .i64 s.due, .int .i64 s.reply] 31) _ rfl
 obtain ⟨bb, hbb⟩ : ∃ b, b = w.heap.size := ⟨_, rfl⟩
 have HBB := Lib.hid hbb
 rw [← hbb] at hb
 have HBL := Lib.hid (fun (wx : World) (k : All (w.alloc (.cells #[.slice a0 l0 c0, .slice a1 l1 c1, .slice a2 l2 c2, .slice a3 l3 c3, .slice a4 l4 c4, .int .i64 s.due, .int .i64 s.reply] 31)) wx) => k.heap hb trivial)
 have HSH := Lib.hid (fun (wx : World) (k : All (w.alloc (.cells #[.slice a0 l0 c0, .slice a1 l1 c1, .slice a2 l2 c2, .slice a3 l3 c3, .slice a4 l4 c4, .int .i64 s.due, .int .i64 s.reply] 31)) wx) => (his.keep (hk1.trans k)).sheet)
 have HQA := Lib.hid (questionAt_any a0 l0 c0 s.sheet key _ (his.keep hk1).sheet (by have := his.n0; omega))
 have HN0 := Lib.hid his.sheet.len
 have hn0 := his.n0
 have HK1 := Lib.hid hk1
 have e0 := cell_at (i := 0) hb rfl
 obtain ⟨er, her⟩ : ∃ z, z = askE s.sheet key 0 := ⟨_, rfl⟩
 have HER := Lib.hid her
 rw [← her]
 clear her hbb hb his hk1
 go_enter Tryz.func34, Tryz.ntmps34
 go_upto_region 1 with fail
 simp only [← HBB.out]
 generalize w.alloc (.cells #[.slice a0 l0 c0, .slice a1 l1 c1, .slice a2 l2 c2, .slice a3 l3 c3, .slice a4 l4 c4, .int .i64 s.due, .int .i64 s.reply] 31) = w1 at *
 go_wp2_with fail
 refine HQA.out.mono ?_
 rintro e w2 ⟨rfl, hw2⟩
 clear e0
 rcases findG_find (p := isQ key) (xs := s.sheet) (k := 0) with ⟨h1, h2⟩ | ⟨i, q, h1, h2, h3⟩
 ·have HE := Lib.hid (show er = 8 from by rw [HER.out, askE, h1])
  rw [h2]
  clear h1 h2
  go_wp2_with fail
  go_ret
  exact ⟨by rw [HE.out]; rfl, HK1.out.trans hw2⟩
 ·rw [h2]
  have hil : i < l0 := by
   have := (List.getElem?_eq_some_iff.1 h3).1
   have := HN0.out
   omega
  obtain ⟨b, off, x, oa, oc, ha, -, q0, q1, q2, q3, q4, q5, -, -, -, hx, -⟩ := (HSH.out _ hw2).atQst hil
  have hxq : x = q := by rw [h3] at hx; injection hx with hx; exact hx.symm
  subst hxq
  have HA := Lib.hid ha
  have hb2 := HBL.out _ hw2
  rw [HA.out] at hb2
  have e0 := cell_at (i := 0) hb2 rfl
  simp only [Nat.zero_add]
  have hdi : decide ((i : Int) < 0) = false := by simp
  have HE := Lib.hid (show er = if x.kind = 2 then 0 else 10 from by rw [HER.out, askE, h1]; rfl)
  clear h1 h2 h3 hx hb2 ha q0 q2 q3 q4 q5
  by_cases hk : x.kind = 2
  ·have hd : (x.kind != 2) = false := by simp [hk]
   have HE2 := Lib.hid (show er = 0 from by rw [HE.out, if_pos hk])
   clear hk
   go_wp2_with fail
   go_ret
   exact ⟨by rw [HE2.out]; rfl, HK1.out.trans hw2⟩
  ·have hd : (x.kind != 2) = true := by simpa using hk
   have HE2 := Lib.hid (show er = 10 from by rw [HE.out, if_neg hk])
   clear hk
   go_wp2_with fail
   go_ret
   exact ⟨by rw [HE2.out]; rfl, HK1.out.trans hw2⟩
set_option maxRecDepth 100000 in
set_option maxHeartbeats 3200000 in
theorem askFault10_any (a0 : Option Addr) (l0 c0 : Nat) (a1 : Option Addr) (l1 c1 : Nat) (a2 : Option Addr) (l2 c2 : Nat) (a3 : Option Addr) (l3 c3 : Nat) (a4 : Option Addr) (l4 c4 : Nat) (s : Set7) (key : ByteArray) (w : World) (his : SetIs (fun _ => True) w a0 l0 a1 l1 a2 l2 a3 l3 a4 l4 s) :
  Calls Tryz.prog 34 #[.agg #[.slice a0 l0 c0, .slice a1 l1 c1, .slice a2 l2 c2, .slice a3 l3 c3, .slice a4 l4 c4, .int .i64 s.due, .int .i64 s.reply], .string key, .int .i64 10] w fun e w' => e = .returned (.int .i64 (askE s.sheet key 10)) ∧ All w w' := by
 have hk1 : All w (w.alloc (.cells #[.slice a0 l0 c0, .slice a1 l1 c1, .slice a2 l2 c2, .slice a3 l3 c3, .slice a4 l4 c4, .int .i64 s.due, .int .i64 s.reply] 31)) := Kept.alloc _ _ _
 have hb := heap_at w (.cells #[.slice a0 l0 c0, .slice a1 l1 c1, .slice a2 l2 c2, .slice a3 l3 c3, .slice a4 l4 c4, .int .i64 s.due, .int .i64 s.reply] 31) _ rfl
 obtain ⟨bb, hbb⟩ : ∃ b, b = w.heap.size := ⟨_, rfl⟩
 have HBB := Lib.hid hbb
 rw [← hbb] at hb
 have HBL := Lib.hid (fun (wx : World) (k : All (w.alloc (.cells #[.slice a0 l0 c0, .slice a1 l1 c1, .slice a2 l2 c2, .slice a3 l3 c3, .slice a4 l4 c4, .int .i64 s.due, .int .i64 s.reply] 31)) wx) => k.heap hb trivial)
 have HSH := Lib.hid (fun (wx : World) (k : All (w.alloc (.cells #[.slice a0 l0 c0, .slice a1 l1 c1, .slice a2 l2 c2, .slice a3 l3 c3, .slice a4 l4 c4, .int .i64 s.due, .int .i64 s.reply] 31)) wx) => (his.keep (hk1.trans k)).sheet)
 have HQA := Lib.hid (questionAt_any a0 l0 c0 s.sheet key _ (his.keep hk1).sheet (by have := his.n0; omega))
 have HN0 := Lib.hid his.sheet.len
 have hn0 := his.n0
 have HK1 := Lib.hid hk1
 have e0 := cell_at (i := 0) hb rfl
 obtain ⟨er, her⟩ : ∃ z, z = askE s.sheet key 10 := ⟨_, rfl⟩
 have HER := Lib.hid her
 rw [← her]
 clear her hbb hb his hk1
 go_enter Tryz.func34, Tryz.ntmps34
 go_upto_region 1 with fail
 simp only [← HBB.out]
 generalize w.alloc (.cells #[.slice a0 l0 c0, .slice a1 l1 c1, .slice a2 l2 c2, .slice a3 l3 c3, .slice a4 l4 c4, .int .i64 s.due, .int .i64 s.reply] 31) = w1 at *
 go_wp2_with fail
 refine HQA.out.mono ?_
 rintro e w2 ⟨rfl, hw2⟩
 clear e0
 rcases findG_find (p := isQ key) (xs := s.sheet) (k := 0) with ⟨h1, h2⟩ | ⟨i, q, h1, h2, h3⟩
 ·have HE := Lib.hid (show er = 8 from by rw [HER.out, askE, h1])
  rw [h2]
  clear h1 h2
  go_wp2_with fail
  go_ret
  exact ⟨by rw [HE.out]; rfl, HK1.out.trans hw2⟩
 ·rw [h2]
  have hil : i < l0 := by
   have := (List.getElem?_eq_some_iff.1 h3).1
   have := HN0.out
   omega
  obtain ⟨b, off, x, oa, oc, ha, -, q0, q1, q2, q3, q4, q5, -, -, -, hx, -⟩ := (HSH.out _ hw2).atQst hil
  have hxq : x = q := by rw [h3] at hx; injection hx with hx; exact hx.symm
  subst hxq
  have HA := Lib.hid ha
  have hb2 := HBL.out _ hw2
  rw [HA.out] at hb2
  have e0 := cell_at (i := 0) hb2 rfl
  simp only [Nat.zero_add]
  have hdi : decide ((i : Int) < 0) = false := by simp
  have HE := Lib.hid (show er = if x.kind = 1 ∧ x.most ≤ 10 then 0 else 10 from by rw [HER.out, askE, h1]; rfl)
  clear h1 h2 h3 hx hb2 ha q0 q3 q4 q5
  by_cases hk : x.kind = 1
  ·have hd : (x.kind != 1) = false := by simp [hk]
   by_cases hm : x.most ≤ 10
   ·have hd2 : decide (10 < x.most) = false := by simp; omega
    have HE2 := Lib.hid (show er = 0 from by rw [HE.out, if_pos ⟨hk, hm⟩])
    clear hk hm
    go_wp2_with fail
    go_ret
    exact ⟨by rw [HE2.out]; rfl, HK1.out.trans hw2⟩
   ·have hd2 : decide (10 < x.most) = true := by simp; omega
    have HE2 := Lib.hid (show er = 10 from by rw [HE.out, if_neg (fun h => hm h.2)])
    clear hk hm
    go_wp2_with fail
    go_ret
    exact ⟨by rw [HE2.out]; rfl, HK1.out.trans hw2⟩
  ·have hd : (x.kind != 1) = true := by simpa using hk
   have HE2 := Lib.hid (show er = 10 from by rw [HE.out, if_neg (fun h => hk h.1)])
   clear hk
   go_wp2_with fail
   go_ret
   exact ⟨by rw [HE2.out]; rfl, HK1.out.trans hw2⟩
end Go.Proofs.YthhmgblcccbdaaaGreatDoor
