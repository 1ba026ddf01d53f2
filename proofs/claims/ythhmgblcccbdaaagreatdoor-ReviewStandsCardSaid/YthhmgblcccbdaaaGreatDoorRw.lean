/- StandsOf. -/
import Derived.Test.YthhmgblcccbdaaaGreatDoorRv
namespace Go.Proofs.YthhmgblcccbdaaaGreatDoor
open Go.RowKit

theorem valid_box (a : Option Addr) (len cap : Nat) (ts : List Raw) (p : K2) (tm : Int) (w : World) (hs : Sl RRaw 7 (fun _ => True) w a len ts) (hl : len ≤ 1000000) :
    ∃ (x : Rev) (aa : Option Addr) (ac : Nat), Calls Tryz.prog 65 #[.slice a len cap, .agg #[.string p.1, .string p.2], .int .i64 tm] w fun e w' => e = .returned (.tuple #[.agg (revC x aa ac), .bool (lastO ts p tm true).isSome]) ∧ All w w' :=
  ⟨_, _, _, valid_any a len cap ts p tm w hs hl⟩
theorem latestOf_box (a : Option Addr) (len cap : Nat) (ts : List Raw) (p : K2) (tm : Int) (w : World) (hs : Sl RRaw 7 (fun _ => True) w a len ts) (hl : len ≤ 1000000) :
    ∃ (x : Rev) (aa : Option Addr) (ac : Nat), Calls Tryz.prog 23 #[.slice a len cap, .agg #[.string p.1, .string p.2], .int .i64 tm] w fun e w' => e = .returned (.tuple #[.agg (revC x aa ac), .bool (lastO ts p tm false).isSome]) ∧ All w w' :=
  ⟨_, _, _, latestOf_any a len cap ts p tm w hs hl⟩

set_option maxRecDepth 100000 in
set_option maxHeartbeats 12800000 in
theorem standsOf_any (a0 : Option Addr) (l0 c0 : Nat) (a1 : Option Addr) (l1 c1 : Nat) (a2 : Option Addr) (l2 c2 : Nat) (a3 : Option Addr) (l3 c3 : Nat) (a4 : Option Addr) (l4 c4 : Nat) (s : Set7) (al : Option Addr) (ll cl : Nat) (ts : List Raw) (tm : Int) (w : World) (his : SetIs (fun _ => True) w a0 l0 a1 l1 a2 l2 a3 l3 a4 l4 s) (hst : Sl RRaw 7 (fun _ => True) w al ll ts) (hl : ll ≤ 1000000) :
    Calls Tryz.prog 28 #[.agg #[.slice a0 l0 c0, .slice a1 l1 c1, .slice a2 l2 c2, .slice a3 l3 c3, .slice a4 l4 c4, .int .i64 s.due, .int .i64 s.reply], .slice al ll cl, .int .i64 tm] w fun e w' => (∃ (p : Option Addr) (c : Nat), e = .returned (.slice p s.pairs.length c) ∧ Sl RStd 3 (fun _ => True) w' p s.pairs.length (standsF s ts tm s.pairs)) ∧ All w w' := by
  have hk1 : All w (w.alloc (.cells #[.slice a0 l0 c0, .slice a1 l1 c1, .slice a2 l2 c2, .slice a3 l3 c3, .slice a4 l4 c4, .int .i64 s.due, .int .i64 s.reply] 31)) := Kept.alloc _ _ _
  have hb := heap_at w (.cells #[.slice a0 l0 c0, .slice a1 l1 c1, .slice a2 l2 c2, .slice a3 l3 c3, .slice a4 l4 c4, .int .i64 s.due, .int .i64 s.reply] 31) _ rfl
  obtain ⟨bb, hbb⟩ : ∃ b, b = w.heap.size := ⟨_, rfl⟩
  have HBB := Lib.hid hbb
  rw [← hbb] at hb
  have HBL := Lib.hid (fun (wx : World) (k : All (w.alloc (.cells #[.slice a0 l0 c0, .slice a1 l1 c1, .slice a2 l2 c2, .slice a3 l3 c3, .slice a4 l4 c4, .int .i64 s.due, .int .i64 s.reply] 31)) wx) => k.heap hb trivial)
  have HPS := Lib.hid (fun (wx : World) (k : All (w.alloc (.cells #[.slice a0 l0 c0, .slice a1 l1 c1, .slice a2 l2 c2, .slice a3 l3 c3, .slice a4 l4 c4, .int .i64 s.due, .int .i64 s.reply] 31)) wx) => his.pairs.keep RPair.ok (hk1.trans k))
  have HST := Lib.hid (fun (wx : World) (k : All (w.alloc (.cells #[.slice a0 l0 c0, .slice a1 l1 c1, .slice a2 l2 c2, .slice a3 l3 c3, .slice a4 l4 c4, .int .i64 s.due, .int .i64 s.reply] 31)) wx) => hst.keep RRaw.ok (hk1.trans k))
  have HPL := Lib.hid his.pairs.len
  have hl2 := his.n2
  have HK1 := Lib.hid hk1
  have e0 := cell_at (i := 0) hb rfl
  have e1 := cell_at (i := 1) hb rfl
  have e2 := cell_at (i := 2) hb rfl
  have e3 := cell_at (i := 3) hb rfl
  have e4 := cell_at (i := 4) hb rfl
  have e5 := cell_at (i := 5) hb rfl
  have e6 := cell_at (i := 6) hb rfl
  clear hbb hb his hst hk1
  go_enter Tryz.func28, Tryz.ntmps28
  go_upto_region 1 with fail
  simp only [← HBB.out]
  generalize w.alloc (.cells #[.slice a0 l0 c0, .slice a1 l1 c1, .slice a2 l2 c2, .slice a3 l3 c3, .slice a4 l4 c4, .int .i64 s.due, .int .i64 s.reply] 31) = w1 at *
  go_wp2_with fail
  clear e0 e1 e2 e3 e4 e5 e6
  go_loopw [7, 18] (fun o i wr => ∃ k : Nat, k ≤ l2 ∧ i = .int .i64 k ∧ Acc RStd 3 68 (fun _ => False) w1.heap.size wr o (standsF s ts tm (s.pairs.take k)) ∧ All w1 wr) (fun _ i _ => l2 - (intOf i).toNat)
  case atStart => exact ⟨0, Nat.zero_le _, rfl, Acc.nil _ _ _ _ _ _, Kept.refl _ _⟩
  case round =>
    obtain ⟨k, hk, rfl, hacc, hwr⟩ := hrel
    obtain ⟨wo, rfl⟩ : ∃ wo : World, wo = wr := ⟨_, rfl⟩
    by_cases hlt : k < l2
    · have hwo := hwr
      obtain ⟨b, off, y, ha, -, c0, c1, -, -, htk⟩ := (HPS.out wo hwr).atPair hlt
      subst ha
      have HY := Lib.hid (standsF_succ (s := s) (ts := ts) (tm := tm) htk)
      have hyz1 := y.h1
      have hyz2 := y.h2
      have hko : All wo (wo.alloc (.cells #[.string y.paper, .string y.person] 38)) := Kept.alloc _ _ _
      have hblk := heap_at wo (.cells #[.string y.paper, .string y.person] 38) _ rfl
      obtain ⟨yb, hyb⟩ : ∃ q, q = wo.heap.size := ⟨_, rfl⟩
      have HYB := Lib.hid hyb
      rw [← hyb] at hblk
      have hac1 := hacc.keepAll RStd.ok hko
      have hwa := hwr.trans hko
      obtain ⟨oa, oc, rfl, hoc⟩ := hac1.form
      have hmk : (standsF s ts tm (s.pairs.take k)).length ≤ k := by rw [standsF_len]; exact List.length_take_le _ _
      clear htk hyb hacc hwr hko hwo
      go_upto_region 5 with fail
      simp only [← HYB.out]
      generalize wo.alloc (.cells #[.string y.paper, .string y.person] 38) = wa at *
      clear c0 c1
      have HBX := Lib.hid (fun (wx : World) (k : All wa wx) => k.heap hblk trivial)
      obtain ⟨x1, aa1, ac1, hv1⟩ := valid_box al ll cl ts (y.paper, y.person) tm wa (HST.out _ hwa) hl
      have HV1 := Lib.hid hv1
      have HV2 := Lib.hid (fun (wx : World) (k : All wa wx) => latestOf_box al ll cl ts (y.paper, y.person) tm wx (HST.out _ (hwa.trans k)) hl)
      obtain ⟨d1, hd1⟩ : ∃ d, d = (lastO ts (y.paper, y.person) tm true).isSome := ⟨_, rfl⟩
      obtain ⟨d2, hd2⟩ : ∃ d, d = (lastO ts (y.paper, y.person) tm false).isSome := ⟨_, rfl⟩
      have HSF := Lib.hid (show standF s ts (y.paper, y.person) tm = if d1 = true then 3 else if s.due ≤ tm then 4 else if d2 = true then 2 else 1 from by rw [standF, hd1, hd2])
      rw [← hd1] at HV1
      rw [← hd2] at HV2
      have q0 := cell_at (i := 0) hblk rfl
      have q1 := cell_at (i := 1) hblk rfl
      clear hblk hd1 hd2 hv1
      go_wp2_with fail
      refine HV1.out.mono ?_
      rintro e w3 ⟨rfl, hw3⟩
      have hw4 : All wa (w3.alloc (.cells (revC x1 aa1 ac1) 45)) := hw3.then_alloc _
      have hb4 := HBX.out _ hw4
      clear q0 q1
      have q0 := cell_at (i := 0) hb4 rfl
      have q1 := cell_at (i := 1) hb4 rfl
      clear hb4
      obtain ⟨x2, aa2, ac2, hv2⟩ := HV2.out _ hw4
      have HV3 := Lib.hid hv2
      clear hv2
      go_wp2_with fail
      refine HV3.out.mono ?_
      rintro e w5 ⟨rfl, hw5⟩
      have hw6 : All wa (w5.alloc (.cells (revC x2 aa2 ac2) 45)) := (hw4.trans hw5).then_alloc _
      have hb6 := HBX.out _ hw6
      clear q0 q1
      have q0 := cell_at (i := 0) hb6 rfl
      have q1 := cell_at (i := 1) hb6 rfl
      clear hb6
      have hw7 : All wa ((w5.alloc (.cells (revC x2 aa2 ac2) 45)).alloc (.cells #[.string y.paper, .string y.person, .int .i64 1] 68)) := hw6.then_alloc _
      obtain ⟨sb, hsb⟩ : ∃ q, q = w5.heap.size + 1 := ⟨_, rfl⟩
      have HSB := Lib.hid hsb
      have hs7 := heap_at (w5.alloc (.cells (revC x2 aa2 ac2) 45)) (.cells #[.string y.paper, .string y.person, .int .i64 1] 68) sb (by simp [hsb])
      have hb1 := HBL.out _ (hwa.trans hw7)
      have g5 := cell_at (i := 5) hb1 rfl
      clear hb1
      have hac7 := (hac1.keepAll RStd.ok hw7)
      have hsbn : w1.heap.size ≤ sb := by have := (hwa.trans (hw4.trans hw5)).size; omega
      have hno : ∀ j, (Value.slice oa (standsF s ts tm (s.pairs.take k)).length oc).ownBlock = some j → j ≠ sb := fun j hj e => by have := ((hac1.keepAll RStd.ok (hw4.trans hw5)).lt j hj).2; omega
      clear hac1 hsb
      go_upto_region 8 with fail
      simp only [← HSB.out]
      generalize (w5.alloc (.cells (revC x2 aa2 ac2) 45)).alloc (.cells #[.string y.paper, .string y.person, .int .i64 1] 68) = w7 at *
      clear q0 q1
      cases d1 with
      | true =>
        have g6 := cell_at (i := 2) hs7 rfl
        have g7 := frozen_at (i := 2) hs7
        have hs8 : (w7.setCell ⟨sb, 2, none⟩ (.int .i64 3)).heap[sb]? = some (.cells #[.string y.paper, .string y.person, .int .i64 3] 68 (0, 0)) := by simpa using heap_setCell_at w7 sb 2 (.int .i64 3) _ _ _ hs7
        have hk8 : All w1 (w7.setCell ⟨sb, 2, none⟩ (.int .i64 3)) := (hwa.trans hw7).then_setNew _ _ hsbn
        have hac8 := hac7.keep RStd.ok (Kept.setCell (F := fun j => j ≠ sb) w7 ⟨sb, 2, none⟩ (.int .i64 3) (fun h => h rfl)) (fun _ h => h.elim) hno
        have u0 := cell_at (i := 0) hs8 rfl
        have u1 := cell_at (i := 1) hs8 rfl
        have u2 := cell_at (i := 2) hs8 rfl
        have HFX := Lib.hid (show standsF s ts tm (s.pairs.take (k + 1)) = standsF s ts tm (s.pairs.take k) ++ [⟨y.paper, y.person, 3⟩] from by rw [HY.out, standOf, HSF.out, if_pos (by simp)])
        have hz8 := (hwa.trans hw7).size
        clear hs7 hs8 hac7 hw7
        go_wp2_with (at_builtin; refine wp_append1 RStd.ok _ rfl _ _ 60 rfl w1.heap.size 68 (.agg #[.string ⟨#[]⟩, .string ⟨#[]⟩, .int .i64 0]) 3 40 Tryz.underlying60 (by kernel_rfl) rfl (by decide) (fun _ => False) _ (standsF s ts tm (s.pairs.take k)) rfl (hac8.keepAll RStd.ok (Kept.alloc _ _ _)) ⟨_, 0, none⟩ 1 [.string y.paper, .string y.person, .int .i64 3] rfl rfl (World.news_of_block (cs := #[.string y.paper, .string y.person, .int .i64 3]) (heap_at _ _ _ (by simp))) (by simp [Value.oneCell']) ⟨y.paper, y.person, 3⟩ ⟨rfl, ⟨hyz1, hyz2⟩⟩ (by omega) (by decide) (by simp; omega) ?_)
        intro p9 c9 w9 hacc9 hg9 _
        have hk9 := Lib.hid ((hk8.then_alloc _).grown hg9 (fun j hj => Or.inl (hac8.lt j hj).1))
        have hfin := Lib.hid hacc9
        clear hacc9 hg9 hac8 u0 u1 u2
        go_wp2_with fail
        go_roundw
        case rel => exact ⟨k + 1, by omega, by go_num, by rw [HFX.out]; exact hfin.out, hk9.out⟩
        case measure => simp [intOf]; omega
      | false =>
        by_cases hdue : s.due ≤ tm
        case pos =>
          have hd : decide (s.due ≤ tm) = true := by simpa using hdue
          have HD := Lib.hid hdue
          clear hdue
          have g6 := cell_at (i := 2) hs7 rfl
          have g7 := frozen_at (i := 2) hs7
          have hs8 : (w7.setCell ⟨sb, 2, none⟩ (.int .i64 4)).heap[sb]? = some (.cells #[.string y.paper, .string y.person, .int .i64 4] 68 (0, 0)) := by simpa using heap_setCell_at w7 sb 2 (.int .i64 4) _ _ _ hs7
          have hk8 : All w1 (w7.setCell ⟨sb, 2, none⟩ (.int .i64 4)) := (hwa.trans hw7).then_setNew _ _ hsbn
          have hac8 := hac7.keep RStd.ok (Kept.setCell (F := fun j => j ≠ sb) w7 ⟨sb, 2, none⟩ (.int .i64 4) (fun h => h rfl)) (fun _ h => h.elim) hno
          have u0 := cell_at (i := 0) hs8 rfl
          have u1 := cell_at (i := 1) hs8 rfl
          have u2 := cell_at (i := 2) hs8 rfl
          have HFX := Lib.hid (show standsF s ts tm (s.pairs.take (k + 1)) = standsF s ts tm (s.pairs.take k) ++ [⟨y.paper, y.person, 4⟩] from by rw [HY.out, standOf, HSF.out, if_neg (by simp), if_pos (by have := HD.out; omega)])
          have hz8 := (hwa.trans hw7).size
          clear hs7 hs8 hac7 hw7
          go_wp2_with (at_builtin; refine wp_append1 RStd.ok _ rfl _ _ 60 rfl w1.heap.size 68 (.agg #[.string ⟨#[]⟩, .string ⟨#[]⟩, .int .i64 0]) 3 40 Tryz.underlying60 (by kernel_rfl) rfl (by decide) (fun _ => False) _ (standsF s ts tm (s.pairs.take k)) rfl (hac8.keepAll RStd.ok (Kept.alloc _ _ _)) ⟨_, 0, none⟩ 1 [.string y.paper, .string y.person, .int .i64 4] rfl rfl (World.news_of_block (cs := #[.string y.paper, .string y.person, .int .i64 4]) (heap_at _ _ _ (by simp))) (by simp [Value.oneCell']) ⟨y.paper, y.person, 4⟩ ⟨rfl, ⟨hyz1, hyz2⟩⟩ (by omega) (by decide) (by simp; omega) ?_)
          intro p9 c9 w9 hacc9 hg9 _
          have hk9 := Lib.hid ((hk8.then_alloc _).grown hg9 (fun j hj => Or.inl (hac8.lt j hj).1))
          have hfin := Lib.hid hacc9
          clear hacc9 hg9 hac8 u0 u1 u2
          go_wp2_with fail
          go_roundw
          case rel => exact ⟨k + 1, by omega, by go_num, by rw [HFX.out]; exact hfin.out, hk9.out⟩
          case measure => simp [intOf]; omega
        case neg =>
          have hd : decide (s.due ≤ tm) = false := by simpa using hdue
          have HD := Lib.hid hdue
          clear hdue
          cases d2 with
          | true =>
            have g6 := cell_at (i := 2) hs7 rfl
            have g7 := frozen_at (i := 2) hs7
            have hs8 : (w7.setCell ⟨sb, 2, none⟩ (.int .i64 2)).heap[sb]? = some (.cells #[.string y.paper, .string y.person, .int .i64 2] 68 (0, 0)) := by simpa using heap_setCell_at w7 sb 2 (.int .i64 2) _ _ _ hs7
            have hk8 : All w1 (w7.setCell ⟨sb, 2, none⟩ (.int .i64 2)) := (hwa.trans hw7).then_setNew _ _ hsbn
            have hac8 := hac7.keep RStd.ok (Kept.setCell (F := fun j => j ≠ sb) w7 ⟨sb, 2, none⟩ (.int .i64 2) (fun h => h rfl)) (fun _ h => h.elim) hno
            have u0 := cell_at (i := 0) hs8 rfl
            have u1 := cell_at (i := 1) hs8 rfl
            have u2 := cell_at (i := 2) hs8 rfl
            have HFX := Lib.hid (show standsF s ts tm (s.pairs.take (k + 1)) = standsF s ts tm (s.pairs.take k) ++ [⟨y.paper, y.person, 2⟩] from by rw [HY.out, standOf, HSF.out, if_neg (by simp), if_neg (by have := HD.out; omega), if_pos (by simp)])
            have hz8 := (hwa.trans hw7).size
            clear hs7 hs8 hac7 hw7
            go_wp2_with (at_builtin; refine wp_append1 RStd.ok _ rfl _ _ 60 rfl w1.heap.size 68 (.agg #[.string ⟨#[]⟩, .string ⟨#[]⟩, .int .i64 0]) 3 40 Tryz.underlying60 (by kernel_rfl) rfl (by decide) (fun _ => False) _ (standsF s ts tm (s.pairs.take k)) rfl (hac8.keepAll RStd.ok (Kept.alloc _ _ _)) ⟨_, 0, none⟩ 1 [.string y.paper, .string y.person, .int .i64 2] rfl rfl (World.news_of_block (cs := #[.string y.paper, .string y.person, .int .i64 2]) (heap_at _ _ _ (by simp))) (by simp [Value.oneCell']) ⟨y.paper, y.person, 2⟩ ⟨rfl, ⟨hyz1, hyz2⟩⟩ (by omega) (by decide) (by simp; omega) ?_)
            intro p9 c9 w9 hacc9 hg9 _
            have hk9 := Lib.hid ((hk8.then_alloc _).grown hg9 (fun j hj => Or.inl (hac8.lt j hj).1))
            have hfin := Lib.hid hacc9
            clear hacc9 hg9 hac8 u0 u1 u2
            go_wp2_with fail
            go_roundw
            case rel => exact ⟨k + 1, by omega, by go_num, by rw [HFX.out]; exact hfin.out, hk9.out⟩
            case measure => simp [intOf]; omega
          | false =>
            have hs8 := hs7
            have hk8 := hwa.trans hw7
            have hac8 := hac7
            have u0 := cell_at (i := 0) hs8 rfl
            have u1 := cell_at (i := 1) hs8 rfl
            have u2 := cell_at (i := 2) hs8 rfl
            have HFX := Lib.hid (show standsF s ts tm (s.pairs.take (k + 1)) = standsF s ts tm (s.pairs.take k) ++ [⟨y.paper, y.person, 1⟩] from by rw [HY.out, standOf, HSF.out, if_neg (by simp), if_neg (by have := HD.out; omega), if_neg (by simp)])
            have hz8 := (hwa.trans hw7).size
            clear hs7 hs8 hac7 hw7
            go_wp2_with (at_builtin; refine wp_append1 RStd.ok _ rfl _ _ 60 rfl w1.heap.size 68 (.agg #[.string ⟨#[]⟩, .string ⟨#[]⟩, .int .i64 0]) 3 40 Tryz.underlying60 (by kernel_rfl) rfl (by decide) (fun _ => False) _ (standsF s ts tm (s.pairs.take k)) rfl (hac8.keepAll RStd.ok (Kept.alloc _ _ _)) ⟨_, 0, none⟩ 1 [.string y.paper, .string y.person, .int .i64 1] rfl rfl (World.news_of_block (cs := #[.string y.paper, .string y.person, .int .i64 1]) (heap_at _ _ _ (by simp))) (by simp [Value.oneCell']) ⟨y.paper, y.person, 1⟩ ⟨rfl, ⟨hyz1, hyz2⟩⟩ (by omega) (by decide) (by simp; omega) ?_)
            intro p9 c9 w9 hacc9 hg9 _
            have hk9 := Lib.hid ((hk8.then_alloc _).grown hg9 (fun j hj => Or.inl (hac8.lt j hj).1))
            have hfin := Lib.hid hacc9
            clear hacc9 hg9 hac8 u0 u1 u2
            go_wp2_with fail
            go_roundw
            case rel => exact ⟨k + 1, by omega, by go_num, by rw [HFX.out]; exact hfin.out, hk9.out⟩
            case measure => simp [intOf]; omega
    · have hd9 : decide ((k : Int) < (l2 : Int)) = false := by simp; omega
      have hkl : k = l2 := by omega
      have HE := Lib.hid (show s.pairs.take k = s.pairs from List.take_of_length_le (by have := HPL.out; omega))
      rw [HE.out] at hacc
      obtain ⟨pa, pc, rfl, hsl⟩ := stdSl hacc
      have HSL := Lib.hid hsl
      clear hacc hsl
      go_wp2_with fail
      go_ret
      rw [standsF_len] at HSL ⊢
      exact ⟨⟨pa, pc, rfl, HSL.out⟩, HK1.out.trans hwr⟩
end Go.Proofs.YthhmgblcccbdaaaGreatDoor
