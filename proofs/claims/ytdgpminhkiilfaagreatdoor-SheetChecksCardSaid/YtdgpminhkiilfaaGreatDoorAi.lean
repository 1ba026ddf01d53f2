/- The generator Answers. -/
import Derived.Test.YtdgpminhkiilfaaGreatDoorAh
import Derived.Deep.RegionHeld3
import Derived.Deep.CutBlock
namespace Go.Proofs.YtdgpminhkiilfaaGreatDoor
open Go.RowKit

theorem nil_small : (⟨#[]⟩ : ByteArray).size ≤ 1000000 := by decide
theorem nl_small : (⟨#[10]⟩ : ByteArray).size ≤ 1000000 := by decide
/-- Answers of the call's own. -/
def PAns (B hi : Nat) (v : Value) (w : World) : Prop := ∃ ys : List Ans4, ys.length ≤ hi ∧ Acc RAns 4 78 (fun _ => False) B w v ys
theorem PAns.keep {σ : St} {B hi : Nat} {v : Value} {w w' : World} (h : PAns B hi v w) (hB : σ.b < B) (k : But σ.b w w') : PAns B hi v w' := by
  obtain ⟨ys, h1, h3⟩ := h
  exact ⟨ys, h1, h3.keep RAns.ok k (fun _ h => h.elim) (fun j hj => by have := (h3.lt j hj).1; omega)⟩
/-- An answer is being made in block ab. -/
def MakeA (σ : St) (ab n c : Nat) (w wx : World) : Prop := ∃ (y : Ans4) (n' : Nat), AnsSmall y ∧ wx.heap[ab]? = some (.cells #[.string y.question, .int .i64 y.number, .string y.option, .string y.words] 78 (0, 0)) ∧ Str σ wx n' ∧ n ≤ n' ∧ n' ≤ n + c ∧ Kept (fun k => k ≠ σ.b ∧ k ≠ ab) w wx

set_option maxRecDepth 100000 in
set_option maxHeartbeats 12800000 in
theorem answers_any (σ : St) (n0 : Nat) (w0 : World) (a : Option Addr) (len cap : Nat) (xs : List Qst) (hs0 : Str σ w0 n0) (hn : n0 ≤ 4611686018427370000) (hx : Sl RQst 6 (fun k => k ≠ σ.b) w0 a len xs) (hlen : len ≤ 1000) :
    Calls Tryz.prog 8 #[.pointer (some ⟨σ.b, 0, none⟩), .slice a len cap] w0 (StPost σ n0 (4 * len + 10) w0 (PAns w0.heap.size (len + 1))) := by
  have hl0 := hs0.lt
  go_enter Tryz.func8, Tryz.ntmps8
  go_wp2_with fail
  go_loopw [5, 12] (fun o i wr => ∃ k : Nat, k ≤ len ∧ i = .int .i64 k ∧ ∃ (ys : List Ans4) (n' : Nat), ys.length ≤ k ∧ Acc RAns 4 78 (fun _ => False) w0.heap.size wr o ys ∧ Str σ wr n' ∧ n0 ≤ n' ∧ n' ≤ n0 + 4 * k ∧ But σ.b w0 wr) (fun _ i _ => len - (intOf i).toNat)
  case atStart => exact ⟨0, Nat.zero_le _, rfl, [], n0, Nat.le_refl _, Acc.nil _ _ _ _ _ _, hs0, Nat.le_refl _, by omega, Kept.refl _ _⟩
  case round =>
    clear hs0
    obtain ⟨k, hk, rfl, ys, nq, hyl, aco, hso, hn1, hn2, hwo⟩ := hrel
    obtain ⟨wo, rfl⟩ : ∃ wo : World, wo = wr := ⟨_, rfl⟩
    obtain ⟨av, cv, rfl, hcv⟩ := aco.form
    obtain ⟨q, hq⟩ : ∃ q, q = ys.length := ⟨_, rfl⟩
    have HYL := Lib.hid hq
    rw [← hq] at aco hcv hyl ⊢
    clear hq
    have hlo := hso.lt
    have hwz := hwo.size
    have hacl : ∀ j, (Value.slice av q cv).ownBlock = some j → w0.heap.size ≤ j ∧ j < wo.heap.size := fun j hj => aco.lt j hj
    by_cases hlt : k < len
    · obtain ⟨b, off, ⟨key, kind, most, opts, needed, secret⟩, oa, oc, ha, hbs, c0, c1, c2, c3, c4, c5, hcp, ⟨hz1, hz2⟩, hos, -, -⟩ := (hx.keep RQst.ok hwo).atQst hlt
      subst ha
      dsimp only at *
      obtain ⟨m, hm⟩ : ∃ m, m = opts.length := ⟨_, rfl⟩
      have HM := Lib.hid hm
      rw [← hm] at hos hcp c3 hz2
      clear hm
      have HACL := Lib.hid hacl
      clear hacl
      have ko : All wo (wo.alloc (.cells #[.string key, .int .i64 kind, .int .i64 most, .slice oa m oc, .bool needed, .bool secret] 73)) := Kept.alloc _ _ _
      have hq1 := heap_at wo (.cells #[.string key, .int .i64 kind, .int .i64 most, .slice oa m oc, .bool needed, .bool secret] 73) _ rfl
      have hs1 := hso.keep ko
      have hw1 := hwo.trans ko.all
      have ac1 := aco.keepAll RAns.ok ko
      have os1 := hos.keep RStr.ok ko.all
      obtain ⟨qb, hqb⟩ : ∃ b, b = wo.heap.size := ⟨_, rfl⟩
      have HQB := Lib.hid hqb
      rw [← hqb] at hq1
      have hqs : qb ≠ σ.b := by omega
      have hqz : w0.heap.size ≤ qb := by omega
      clear hqb ko hso aco hos hwo
      go_upto_region 5 with fail
      simp only [← HQB.out]
      generalize wo.alloc (.cells #[.string key, .int .i64 kind, .int .i64 most, .slice oa m oc, .bool needed, .bool secret] 73) = w1 at *
      clear c0 c1 c2 c3 c4 c5
      have hl1 := hs1.lt
      have hq1s := (Array.getElem?_eq_some_iff.1 hq1).1
      go_cut [26] (fun t wx => (∃ r : Bool, t = .bool r) ∧ ∃ n', Str σ wx n' ∧ nq ≤ n' ∧ n' ≤ nq + 2 ∧ But σ.b w1 wx)
      case first =>
        have e4 := cell_at (i := 4) hq1 rfl
        clear ac1 os1 hw1
        cases needed with
        | true =>
          obtain ⟨n1, hn1e⟩ : ∃ n, n = nq := ⟨_, rfl⟩
          rw [← hn1e] at hs1
          go_wp2_with fail
          refine (flip_any σ n1 9 _ hs1 (by omega) (by omega) (by omega)).mono ?_
          rintro e w2 ⟨v, n2, rfl, ⟨f2, rfl⟩, hA2, hB2, hs2, hb2⟩
          go_wp2_with fail
          go_meet
          exact ⟨⟨_, rfl⟩, n2, hs2, by omega, by omega, hb2⟩
        | false =>
          obtain ⟨n1, hn1e⟩ : ∃ n, n = nq := ⟨_, rfl⟩
          rw [← hn1e] at hs1
          go_wp2_with fail
          refine (flip_any σ n1 2 _ hs1 (by omega) (by omega) (by omega)).mono ?_
          rintro e w2 ⟨v, n2, rfl, ⟨f1, rfl⟩, hA2, hB2, hs2, hb2⟩
          cases f1 with
          | true =>
            go_wp2_with fail
            go_meet
            exact ⟨⟨_, rfl⟩, n2, hs2, by omega, by omega, hb2⟩
          | false =>
            have hl2 := hs2.lt
            go_wp2_with fail
            refine (flip_any σ n2 9 _ hs2 (by omega) (by omega) (by omega)).mono ?_
            rintro e w3 ⟨v, n3, rfl, ⟨f2, rfl⟩, hA3, hB3, hs3, hb3⟩
            go_wp2_with fail
            go_meet
            exact ⟨⟨_, rfl⟩, n3, hs3, by omega, by omega, hb2.trans hb3⟩
      case rest =>
        obtain ⟨⟨r, rfl⟩, n2, hs2, hA2, hB2, hb2⟩ := hcut
        obtain ⟨w2, rfl⟩ : ∃ x : World, x = wc := ⟨_, rfl⟩
        have hw2 := hw1.trans hb2
        have hq2 := hb2.heap hq1 hqs
        have ac2 := ac1.keep RAns.ok hb2 (fun _ h => h.elim) (fun j hj => by have := HACL.out j hj; omega)
        have os2 := os1.keep RStr.ok hb2
        have hz12 := hb2.size
        clear hs1 hw1 hq1 ac1 os1 hb2
        have hl2 := hs2.lt
        cases r with
        | true =>
          go_wp2_with fail
          go_roundw
          case rel => exact ⟨k + 1, by omega, by go_num, ys, n2, by rw [← HYL.out]; omega, ac2, hs2, by omega, by omega, hw2⟩
          case measure => simp [intOf]; omega
        | false =>
          have f0 := cell_at (i := 0) hq2 rfl
          have ko : All w2 (w2.alloc (.cells #[.string key, .int .i64 0, .string ⟨#[]⟩, .string ⟨#[]⟩] 78)) := Kept.alloc _ _ _
          have ha3 := heap_at w2 (.cells #[.string key, .int .i64 0, .string ⟨#[]⟩, .string ⟨#[]⟩] 78) _ rfl
          have hs3 := hs2.keep ko
          have hw3 := hw2.trans ko.all
          have hq3 := ko.heap hq2 trivial
          have ac3 := ac2.keepAll RAns.ok ko
          have os3 := os2.keep RStr.ok ko.all
          obtain ⟨ab, hab⟩ : ∃ b, b = w2.heap.size := ⟨_, rfl⟩
          have HAB := Lib.hid hab
          rw [← hab] at ha3
          have has : ab ≠ σ.b := by omega
          have haz : w0.heap.size ≤ ab := by have := hw2.size; omega
          have haq : ab ≠ qb := by have := (Array.getElem?_eq_some_iff.1 hq2).1; omega
          have hsab : σ.b < ab := by omega
          have HAL := Lib.hid (show ∀ j, (Value.slice av q cv).ownBlock = some j → j ≠ ab from fun j hj e => by have := (HACL.out j hj).2; have := HQB.out; have := HAB.out; omega)
          have f1 := cell_at (i := 1) hq3 rfl
          have HOBL := Lib.hid (fun (h : 0 < m) => os2.strs h)
          clear hab ko hs2 hw2 ac2 os2
          go_upto_block 2 with fail
          simp only [← HAB.out]
          clear f0 f1 hq2
          generalize w2.alloc (.cells #[.string key, .int .i64 0, .string ⟨#[]⟩, .string ⟨#[]⟩] 78) = w3 at *
          have hl3 := hs3.lt
          go_cut [] (fun wx => MakeA σ ab n2 2 w3 wx)
          case first =>
            clear ac3 hw3
            have e1 := cell_at (i := 1) hq3 rfl
            have e2 := cell_at (i := 2) hq3 rfl
            have e3 := cell_at (i := 3) hq3 rfl
            have a2 := cell_at (i := 2) ha3 rfl
            have a3 := cell_at (i := 3) ha3 rfl
            have a1 := cell_at (i := 1) ha3 rfl
            by_cases hk1 : kind = 1
            · subst hk1
              obtain ⟨hi, hhi⟩ : ∃ z : Int, z = max 0 (min most 10) := ⟨_, rfl⟩
              have hh1 : 0 ≤ hi := by omega
              have hh2 : hi ≤ 10 := by omega
              have HHI := Lib.hid hhi
              clear hhi
              go_wp2_with fail
              refine (range_any σ n2 0 _ _ hs3 (by omega) (by omega) (by omega) (by omega)).mono ?_
              rintro e w4 ⟨v, n4, rfl, ⟨r, rfl, hr1, hr2⟩, hA4, hB4, hs4, hb4⟩
              have hat := hb4.heap ha3 has
              have qc := cell_at (i := 1) hat rfl
              have fc := frozen_at (i := 1) hat
              have bkf := heap_setCell_at _ ab 1 (.int .i64 r) _ _ _ hat
              simp only [List.setIfInBounds_toArray, List.set_cons_zero, List.set_cons_succ] at bkf
              have hfin := Lib.hid (show MakeA σ ab n2 2 w3 _ from ⟨⟨key, r, ⟨#[]⟩, ⟨#[]⟩⟩, n4, ⟨hz1, nil_small, nil_small⟩, bkf, hs4.set ⟨ab, 1, none⟩ (.int .i64 r) hsab, by omega, by omega, (hb4.mono (fun k hk => hk.1)).then_setCell ⟨ab, 1, none⟩ (.int .i64 r) (fun h => h.2 rfl)⟩)
              clear hat bkf hs4 hs3 hb4 ha3 hq3 a1 a2 a3 e1 e2 e3
              go_wp2_with fail
              go_meet
              exact hfin.out
            by_cases hk2 : kind = 2
            · subst hk2
              by_cases hm0 : m = 0
              · have hg : decide (0 < m) = false := by simp; omega
                have hfin := Lib.hid (show MakeA σ ab n2 2 w3 w3 from ⟨⟨key, 0, ⟨#[]⟩, ⟨#[]⟩⟩, n2, ⟨hz1, nil_small, nil_small⟩, ha3, hs3, by omega, by omega, Kept.refl _ _⟩)
                clear hm0 ha3 hs3
                go_wp2_with fail
                go_meet
                exact hfin.out
              · have hg : decide (0 < m) = true := by simp; omega
                obtain ⟨ob, oo, rfl, hobs, hoc⟩ := os3.strs (by omega)
                have hoab : ob ≠ ab := by
                  obtain ⟨ob2, oo2, hoa2, -, hoc2⟩ := HOBL.out (by omega)
                  injection hoa2 with e
                  injection e with e1 e2 e3
                  subst e1
                  have := lt_of_cell (hoc2 0 (by omega)).1
                  have := HAB.out
                  dsimp only at *
                  omega
                have HOC := Lib.hid (fun (wx : World) (k : But σ.b w3 wx) (i : Nat) (hi : i < m) => k.cell (hoc i hi).1 hobs)
                have hoc3 : ∀ i, i < m → w3.cell? ⟨ob, oo + i, none⟩ = some (.string (opts.getD i ByteArray.empty)) := fun i hi => (hoc i hi).1
                have HOZ := Lib.hid (fun (i : Nat) (hi : i < m) => (hoc i hi).2)
                have hmz : (m : Int) ≤ 1000000 := by omega
                have hm1 : (1 : Int) ≤ (m : Int) := by omega
                have HS3 := Lib.hid hs3
                clear hoc hm0 os3 a1 a3
                go_upto_region 15 with fail
                go_region_held3 (fun w' => w'.cell? ⟨qb, 3, none⟩ = some (.slice (some ⟨ob, oo, none⟩) m oc) ∧ ∀ i, i < m → w'.cell? ⟨ob, oo + i, none⟩ = some (.string (opts.getD i ByteArray.empty))) (first | exact ⟨e3, hoc3⟩ | exact ⟨d3, dall⟩ | exact ⟨(Kept.setCell (F := fun k => k ≠ ab) w4 _ _ (fun h => h rfl)).cell d3 haq.symm, fun i hi => (Kept.setCell (F := fun k => k ≠ ab) w4 _ _ (fun h => h rfl)).cell (dall i hi) hoab⟩ | exact ⟨by assumption, by assumption⟩ | go_keep) (first | (go_at_call 37; refine (next_any σ n2 (m : Int) _ (HS3.out.keep (by repeat (first | exact Kept.refl _ _ | refine Kept.then_drew ?_ | refine Kept.then_drewN ?_ _ | refine Kept.then_alloc ?_ _))) (by omega) hm1 (by omega)).mono ?_; rintro e w4 ⟨v, n4, rfl, ⟨r, rfl, hr1, hr2⟩, hA4, hB4, hs4, hb4⟩; have hp1 : But σ.b w3 w4 := (Kept.all ((by repeat (first | exact Kept.refl _ _ | refine Kept.then_drew ?_ | refine Kept.then_drewN ?_ _ | refine Kept.then_alloc ?_ _)) : All w3 _)).trans hb4; obtain ⟨ri, rfl⟩ := Int.eq_ofNat_of_zero_le hr1; have hri : ri < m := (by omega); have d3 := hp1.cell e3 hqs; have dall : ∀ i, i < m → w4.cell? ⟨ob, oo + i, none⟩ = some (.string (opts.getD i ByteArray.empty)) := fun i hi => HOC.out w4 hp1 i hi; have dz := HOZ.out ri hri; obtain ⟨yy, hyy⟩ : ∃ y, y = opts.getD ri ByteArray.empty := ⟨_, rfl⟩; rw [← hyy] at dz; have da := cell_at (i := 2) (hp1.heap ha3 has) rfl; have df := frozen_at (i := 2) (hp1.heap ha3 has)))
                rw [List.getD_eq_getElem?_getD] at hyy
                rw [← hyy]
                clear hyy
                have hat := hp1.heap ha3 has
                have bkf := heap_setCell_at _ ab 2 (.string yy) _ _ _ hat
                simp only [List.setIfInBounds_toArray, List.set_cons_zero, List.set_cons_succ] at bkf
                have hfin := Lib.hid (show MakeA σ ab n2 2 w3 _ from ⟨⟨key, 0, yy, ⟨#[]⟩⟩, n4, ⟨hz1, dz, nil_small⟩, bkf, hs4.set ⟨ab, 2, none⟩ (.string yy) hsab, by omega, by omega, (hp1.mono (fun k hk => hk.1)).then_setCell ⟨ab, 2, none⟩ (.string yy) (fun h => h.2 rfl)⟩)
                clear hat bkf
                go_wp2_with fail
                go_meet
                exact hfin.out
            have g1 : (kind == 1) = false := by simpa using hk1
            have g2 : (kind == 2) = false := by simpa using hk2
            clear hk1 hk2
            go_wp2_with fail
            refine (some10_any σ n2 _ 4 4 [⟨#[97, 10]⟩, ⟨#[10]⟩, ⟨#[121, 101, 115, 32, 97, 110, 100, 32, 110, 111, 10]⟩, ⟨#[111, 110, 101, 10, 10, 116, 119, 111, 10]⟩] _ (hs3.keep (Kept.alloc _ _ _)) (by omega) (Sl.lit_strs _ (heap_at w3 _ _ rfl) rfl (by omega)) (by omega) (by omega)).mono ?_
            rintro e w4 ⟨v, n4, rfl, ⟨y, rfl, -, hy⟩, hA4, hB4, hs4, hb4'⟩
            have hb4 : But σ.b w3 w4 := (Kept.alloc _ _ _).trans hb4'
            have e24 := hb4.cell e2 hqs
            clear hb4' e1 e2 e3 a1 a2 a3
            have hat := hb4.heap ha3 has
            have qc := cell_at (i := 3) hat rfl
            have fc := frozen_at (i := 3) hat
            have bkf := heap_setCell_at _ ab 3 (.string y) _ _ _ hat
            simp only [List.setIfInBounds_toArray, List.set_cons_zero, List.set_cons_succ] at bkf
            have ac5 := cell_at (i := 3) bkf rfl
            have e25 : (w4.setCell ⟨ab, 3, none⟩ (.string y)).cell? ⟨qb, 2, none⟩ = some (.int .i64 most) := (Kept.setCell (F := fun k => k ≠ ab) w4 ⟨ab, 3, none⟩ (.string y) (fun h => h rfl)).cell e24 haq.symm
            by_cases hL : most < (y.size : Int)
            · have hd : decide (most < (y.size : Int)) = true := by simpa using hL
              have bkg := heap_setCell_at _ ab 3 (.string ⟨#[10]⟩) _ _ _ bkf
              simp only [List.setIfInBounds_toArray, List.set_cons_zero, List.set_cons_succ] at bkg
              have fc2 := frozen_at (i := 3) bkf
              have hfin := Lib.hid (show MakeA σ ab n2 2 w3 _ from ⟨⟨key, 0, ⟨#[]⟩, ⟨#[10]⟩⟩, n4, ⟨hz1, nil_small, nl_small⟩, bkg, (hs4.set ⟨ab, 3, none⟩ (.string y) hsab).set ⟨ab, 3, none⟩ (.string ⟨#[10]⟩) hsab, by omega, by omega, ((hb4.mono (fun k hk => hk.1)).then_setCell ⟨ab, 3, none⟩ (.string y) (fun h => h.2 rfl)).then_setCell ⟨ab, 3, none⟩ (.string ⟨#[10]⟩) (fun h => h.2 rfl)⟩)
              clear hat bkf bkg hs4 hs3 hb4 ha3 hq3 hL
              go_wp2_with fail
              go_meet
              exact hfin.out
            · have hd : decide (most < (y.size : Int)) = false := by simpa using hL
              have hfin := Lib.hid (show MakeA σ ab n2 2 w3 _ from ⟨⟨key, 0, ⟨#[]⟩, y⟩, n4, ⟨hz1, nil_small, hy⟩, bkf, hs4.set ⟨ab, 3, none⟩ (.string y) hsab, by omega, by omega, (hb4.mono (fun k hk => hk.1)).then_setCell ⟨ab, 3, none⟩ (.string y) (fun h => h.2 rfl)⟩)
              clear hat bkf hs4 hs3 hb4 ha3 hq3 hL
              go_wp2_with fail
              go_meet
              exact hfin.out
          case rest =>
            obtain ⟨y, n4, hys, hay, hs4, hA4, hB4, hk4⟩ := hcut
            obtain ⟨w4, rfl⟩ : ∃ x : World, x = wc := ⟨_, rfl⟩
            have hw4 : But σ.b w0 w4 := hw3.trans2 hk4 (fun i hi h => ⟨h, by omega⟩)
            have ac4 := ac3.keep RAns.ok hk4 (fun _ h => h.elim) (fun j hj => ⟨by have := HACL.out j hj; omega, HAL.out j hj⟩)
            have y0 := cell_at (i := 0) hay rfl
            have y1 := cell_at (i := 1) hay rfl
            have y2 := cell_at (i := 2) hay rfl
            have y3 := cell_at (i := 3) hay rfl
            clear hay hk4 hw3 ac3 hs3 ha3 hq3 os3
            go_wp2_with (at_builtin; refine wp_append1 RAns.ok _ rfl _ _ 28 rfl w0.heap.size 78 (.agg #[.string ⟨#[]⟩, .int .i64 0, .string ⟨#[]⟩, .string ⟨#[]⟩]) 4 56 Tryz.underlying28 (by kernel_rfl) rfl (by decide) (fun _ => False) _ ys rfl (ac4.keepAll RAns.ok (Kept.alloc _ _ _)) ⟨_, 0, none⟩ 1 [.string y.question, .int .i64 y.number, .string y.option, .string y.words] rfl rfl (World.news_of_block (cs := #[.string y.question, .int .i64 y.number, .string y.option, .string y.words]) (heap_alloc_new w4 _)) (by simp [Value.oneCell']) y ⟨rfl, hys⟩ (by have := HYL.out; omega) (by decide) (by have := hw4.size; simp at this ⊢; omega) ?_)
            intro p' c' w9 hacc9 hg9 _
            have hk9 : Kept (fun k => k < w0.heap.size) w4 w9 := ((Kept.refl _ _).then_alloc _).grown hg9 (fun k hk => Or.inr (by have := (ac4.lt k hk).1; omega))
            have hw9 : But σ.b w0 w9 := hw4.trans2 hk9 (fun k hk _ => hk)
            have hs9 := hs4.kept hk9 (fun k hk => by omega)
            clear ac4 hw4 hs4 hk9 hg9
            go_wp2_with fail
            go_roundw
            case rel => exact ⟨k + 1, by omega, by go_num, ys ++ [y], n4, by simp; have := HYL.out; omega, hacc9, hs9, by omega, by omega, hw9⟩
            case measure => simp [intOf]; omega
    · have hd : decide ((k : Int) < (len : Int)) = false := by simp; omega
      obtain ⟨n1, hn1e⟩ : ∃ n, n = nq := ⟨_, rfl⟩
      rw [← hn1e] at hso
      obtain ⟨w1, hw1e⟩ : ∃ x, x = wo := ⟨_, rfl⟩
      subst hw1e
      have hs1 := hso
      have hw1 := hwo
      have ac1 := aco
      have hl1 := hlo
      clear hso hwo aco hlo hacl
      go_wp2_with fail
      refine (flip_any σ n1 20 _ hs1 (by omega) (by omega) (by omega)).mono ?_
      rintro e w2 ⟨v, n2, rfl, ⟨fb, rfl⟩, hA2, hB2, hs2, hb2⟩
      have hw2 := (hw1).trans hb2
      have ac2 := ac1.keep RAns.ok hb2 (fun _ h => h.elim) (fun k hk => by have := (ac1.lt k hk).1; omega)
      clear hs1 hb2 hw1 ac1
      have hl2 := hs2.lt
      cases fb with
      | false =>
        have hfin := Lib.hid (show PAns w0.heap.size (len + 1) (.slice av q cv) w2 from ⟨ys, by rw [← HYL.out]; omega, ac2⟩)
        have hst := Lib.hid hs2
        have hbt := Lib.hid hw2
        clear ac2 hs2 hw2
        go_wp2_with fail
        go_ret
        exact ⟨_, n2, rfl, hfin.out, by omega, by omega, hst.out, hbt.out⟩
      | true =>
        go_wp2_with fail
        refine (some10_any σ n2 _ 4 4 [⟨#[115, 99, 111, 114, 101]⟩, ⟨#[110, 111, 110, 101]⟩, ⟨#[110, 111, 116, 101]⟩, ⟨#[100, 101, 112, 116, 104]⟩] _ (hs2.keep (Kept.alloc _ _ _)) (by omega) (Sl.lit_strs _ (heap_at w2 _ _ rfl) rfl (by have := hs2.lt; omega)) (by omega) (by omega)).mono ?_
        rintro e w3 ⟨v, n3, rfl, ⟨y1, rfl, -, hy1⟩, hA3, hB3, hs3, hb3⟩
        have hw3 := (hw2.then_alloc _).trans hb3
        have ac3 := (ac2.keepAll RAns.ok ((Kept.refl _ _).then_alloc _)).keep RAns.ok hb3 (fun _ h => h.elim) (fun k hk => by have := (ac2.lt k hk).1; omega)
        clear hs2 hb3 hw2 ac2
        have hl3 := hs3.lt
        go_wp2_with fail
        refine (odd10_any σ n3 0 10 _ hs3 (by omega) (by omega) (by omega) (by omega)).mono ?_
        rintro e w4 ⟨v, n4, rfl, ⟨y2, rfl, hy2⟩, hA4, hB4, hs4, hb4⟩
        have hw4 := (hw3).trans hb4
        have ac4 := ac3.keep RAns.ok hb4 (fun _ h => h.elim) (fun k hk => by have := (ac3.lt k hk).1; omega)
        clear hs3 hb4 hw3 ac3
        have hl4 := hs4.lt
        clear hy2
        go_wp2_with fail
        refine (some10_any σ n4 _ 3 3 [⟨#[]⟩, ⟨#[]⟩, ⟨#[121, 101, 115]⟩] _ (hs4.keep (Kept.alloc _ _ _)) (by omega) (Sl.lit_strs _ (heap_at w4 _ _ rfl) rfl (by have := hs4.lt; omega)) (by omega) (by omega)).mono ?_
        rintro e w5 ⟨v, n5, rfl, ⟨y3, rfl, -, hy3⟩, hA5, hB5, hs5, hb5⟩
        have hw5 := (hw4.then_alloc _).trans hb5
        have ac5 := (ac4.keepAll RAns.ok ((Kept.refl _ _).then_alloc _)).keep RAns.ok hb5 (fun _ h => h.elim) (fun k hk => by have := (ac4.lt k hk).1; omega)
        clear hs4 hb5 hw4 ac4
        have hl5 := hs5.lt
        go_wp2_with fail
        refine (some10_any σ n5 _ 4 4 [⟨#[]⟩, ⟨#[]⟩, ⟨#[120]⟩, ⟨#[10]⟩] _ (hs5.keep (Kept.alloc _ _ _)) (by omega) (Sl.lit_strs _ (heap_at w5 _ _ rfl) rfl (by have := hs5.lt; omega)) (by omega) (by omega)).mono ?_
        rintro e w6 ⟨v, n6, rfl, ⟨y4, rfl, -, hy4⟩, hA6, hB6, hs6, hb6⟩
        have hw6 := (hw5.then_alloc _).trans hb6
        have ac6 := (ac5.keepAll RAns.ok ((Kept.refl _ _).then_alloc _)).keep RAns.ok hb6 (fun _ h => h.elim) (fun k hk => by have := (ac5.lt k hk).1; omega)
        clear hs5 hb6 hw5 ac5
        have hl6 := hs6.lt
        have hys : AnsSmall ⟨y1, y2, y3, y4⟩ := ⟨hy1, hy3, hy4⟩
        have hs7 := hs6.keep (Kept.alloc (fun _ => True) w6 (.cells #[.string y1, .int .i64 y2, .string y3, .string y4] 78))
        have hw7 := hw6.then_alloc (.cells #[.string y1, .int .i64 y2, .string y3, .string y4] 78)
        have ac7 := ac6.keepAll RAns.ok (Kept.alloc (fun _ => True) w6 (.cells #[.string y1, .int .i64 y2, .string y3, .string y4] 78))
        clear hs6 hw6 ac6
        go_wp2_with (at_builtin; refine wp_append1 RAns.ok _ rfl _ _ 28 rfl w0.heap.size 78 (.agg #[.string ⟨#[]⟩, .int .i64 0, .string ⟨#[]⟩, .string ⟨#[]⟩]) 4 56 Tryz.underlying28 (by kernel_rfl) rfl (by decide) (fun _ => False) _ ys rfl (ac7.keepAll RAns.ok (Kept.alloc _ _ _)) ⟨_, 0, none⟩ 1 [.string y1, .int .i64 y2, .string y3, .string y4] rfl rfl (World.news_of_block (cs := #[.string y1, .int .i64 y2, .string y3, .string y4]) (heap_at (w6.alloc (.cells #[.string y1, .int .i64 y2, .string y3, .string y4] 78)) _ _ (by simp))) (by simp [Value.oneCell']) ⟨y1, y2, y3, y4⟩ ⟨rfl, hys⟩ (by have := HYL.out; omega) (by decide) (by have := hw7.size; simp at this ⊢; omega) ?_)
        intro p' c' w9 hacc9 hg9 _
        have hk9 : Kept (fun k => k < w0.heap.size) (w6.alloc (.cells #[.string y1, .int .i64 y2, .string y3, .string y4] 78)) w9 := ((Kept.refl _ _).then_alloc _).grown hg9 (fun k hk => Or.inr (by have := (ac7.lt k hk).1; omega))
        have hw9 : But σ.b w0 w9 := hw7.trans2 hk9 (fun k hk _ => hk)
        have hs9 := hs7.kept hk9 (fun k hk => by omega)
        clear ac7 hw7 hs7 hk9 hg9
        have hfin := Lib.hid (show PAns w0.heap.size (len + 1) _ _ from ⟨_, by simp; have := HYL.out; omega, hacc9⟩)
        rw [← HYL.out] at hfin ⊢
        have hst := Lib.hid hs9
        have hbt := Lib.hid hw9
        clear hacc9 hs9 hw9
        go_wp2_with fail
        go_ret
        exact ⟨_, n6, rfl, hfin.out, by omega, by omega, hst.out, hbt.out⟩
end Go.Proofs.YtdgpminhkiilfaaGreatDoor
