/- CiteOf answers as Cite does. -/
import Derived.Test.YtbpbhpmkganefaaGreatDoorYo
import Derived.Test.YtbpbhpmkganefaaGreatDoorWg
import Derived.Test.YtbpbhpmkganefaaGreatDoorJc
import Derived.Test.YtbpbhpmkganefaaGreatDoorFp
import Derived.Test.YtbpbhpmkganefaaGreatDoorZm
namespace Go.Proofs.YtbpbhpmkganefaaGreatDoor
open Go.RowKit

theorem kept_of_grownS {w w' : World} {o : Option Nat} (hg : w.grownBy w' o) : Kept (fun k => o ≠ some k) w w' := ⟨hg.os, hg.tape, hg.output, hg.size, fun k hk hf => hg.block k hk (fun e => hf e.symm)⟩
theorem join_any (bk c : Nat) (xs : List ByteArray) (w : World) (hcells : ∀ (j : Nat) x, xs[j]? = some x → w.cell? ⟨bk, j, none⟩ = some (.string x)) (hbk : bk < w.heap.size) (hN : xs.length ≤ 100000) (hcap : xs.length ≤ c) (hlen : (joinB xs).size ≤ 100000000) :
    Calls Tryz.prog 43 #[.slice (some ⟨bk, 0, none⟩) xs.length c, .string ⟨#[44, 32]⟩] w fun e w' => e = .returned (.string (joinB xs)) ∧ All w w' := by
  have h := Tryz.strings_Join bk 0 c xs commaB w (fun j x hx => by rw [Nat.zero_add]; exact hcells j x hx) hbk (by omega) hcap (by rw [joinB, Lib.size_eq] at hlen; exact Nat.le_trans hlen (by decide))
  refine h.mono ?_
  rintro e w' ⟨rfl, hw⟩
  exact ⟨rfl, Kept.of_below hw⟩

set_option maxRecDepth 100000 in
set_option maxHeartbeats 25600000 in
theorem citeOf_any (first : Int) (right : Bool) (av : Option Addr) (lv cv : Nat) (cs : List Chap) (af : Option Addr) (lf cf : Nat) (xs : List Fin4) (p : ByteArray) (w : World)
    (hv : Sl RChap 2 (fun _ => True) w av lv cs) (hf : Sl RFin 4 (fun _ => True) w af lf xs) (hlf : lf ≤ 1000) (hok : VolOk first right cs xs) (x : Leaf3) (hx : leafOf (lvs first right cs xs) p = some x) (hg : GlobS w) (hpw : Pow w) :
    Calls Tryz.prog 11 #[.agg #[.int .i64 first, .bool right, .slice av lv cv], .slice af lf cf, .string p] w fun e w' => e = .returned (.string (citeR first right cs xs p)) ∧ All w w' := by
  have HG := Lib.hid hg
  have HP := Lib.hid hpw
  have OK := Lib.hid hok
  have HRs := Lib.hid (finalsF_rises hok.fin)
  have hxm : x ∈ lvs first right cs xs := List.mem_of_find?_eq_some hx
  have hxp : x.paper = p := by have h9 := List.find?_some hx; simpa [isP] using h9
  obtain ⟨i, hxi⟩ := List.getElem?_of_mem hxm
  obtain ⟨f, hlf4⟩ := LeafOk.of hok hxi
  obtain ⟨hb1, hb2, hb3, hb4⟩ := leaf_bd hok hxm
  have HF := Lib.hid hlf4
  have HXP := Lib.hid hxp
  obtain ⟨rs, hrs⟩ : ∃ r, r = citeR first right cs xs p := ⟨_, rfl⟩
  have H1 := Lib.hid (hrs.trans (citeR_some hx))
  rw [← hrs]
  have HX := Lib.hid hx
  have hk0 : All w (w.alloc (.cells #[.int .i64 first, .bool right, .slice av lv cv] 30)) := Kept.alloc _ _ _
  have hblk := heap_at w (.cells #[.int .i64 first, .bool right, .slice av lv cv] 30) _ rfl
  obtain ⟨vb, hvb⟩ : ∃ b, b = w.heap.size := ⟨_, rfl⟩
  have HVB := Lib.hid hvb
  rw [← hvb] at hblk
  have v0 := cell_at (i := 0) hblk rfl
  have v1 := cell_at (i := 1) hblk rfl
  have v2 := cell_at (i := 2) hblk rfl
  obtain ⟨ix, hix⟩ : ∃ i, i = cntOf xs p := ⟨_, rfl⟩
  have HIX := Lib.hid (show xs[ix]? = some f by rw [hix, ← hxp]; exact hlf4.at')
  have HFD := Lib.hid (show findG (isPaper p) 0 xs = (ix : Int) by rw [hix, ← hxp]; exact hlf4.find)
  clear hblk hvb hg hpw hok hxm hxp hxi hlf4 hrs hix hx
  have hixl : ix < lf := by
    have h1 := (List.getElem?_eq_some_iff.1 HIX.out).1
    have h2 := hf.len
    omega
  obtain ⟨bf, of, f', ac, cc, haf, -, ct0, ct1, ct2, ct3, -, hcc, hcr, hf', -, -⟩ := hf.atFin hixl
  have hff : f' = f := by rw [HIX.out] at hf'; injection hf' with hf'; exact hf'.symm
  subst hff
  subst haf
  have htz : f'.title.size ≤ 200 := title_small OK.out.fin (List.mem_of_getElem? HIX.out)
  have g1 : (0 : Int) ≤ (ix : Int) := by omega
  have g2 : (ix : Int) < (lf : Int) := by omega
  obtain ⟨q, hq⟩ : ∃ q, q = f'.credits.length := ⟨_, rfl⟩
  have hq20 : q ≤ 20 := by rw [hq]; exact HF.out.creds.len
  have hq1 : q ≠ 0 := by rw [hq]; exact HF.out.creds.ne
  rw [← hq] at ct3 hcr hcc
  obtain ⟨ns, hns⟩ : ∃ ns, ns = citeN f'.credits := ⟨_, rfl⟩
  have HNS := Lib.hid hns
  have HNL := Lib.hid (show ns.length = q by rw [hns, hq, citeN, List.length_map])
  have HNZ := Lib.hid (show ∀ x ∈ ns, x.size ≤ 100000 by rw [hns]; exact citeN_size HF.out.creds)
  have H1' := Lib.hid (show rs = citeT ns (titleOf xs p) x.lo x.hi by rw [H1.out, hns, show crOf xs p = f'.credits from by rw [← HXP.out]; exact HF.out.cr])
  have HTO := Lib.hid (show titleOf xs p = f'.title from titleOf_some (by rw [← HXP.out]; exact HF.out.fin))
  clear hf' hq hns
  go_enter Tryz.func11, Tryz.ntmps11
  go_upto_region 1 with fail
  simp only [← HVB.out]
  generalize w.alloc (.cells #[.int .i64 first, .bool right, .slice av lv cv] 30) = w1 at *
  go_wp2_with fail
  refine (finalAt_any _ lf cf xs p _ (hf.keep RFin.ok hk0) (by omega)).mono ?_
  rintro e w2 ⟨rfl, hw2⟩
  rw [HFD.out]
  have hk2 := hk0.trans hw2
  replace v0 := hw2.cell v0 trivial
  replace v1 := hw2.cell v1 trivial
  replace v2 := hw2.cell v2 trivial
  have u0 := hk2.cell ct0 trivial
  have u1 := hk2.cell ct1 trivial
  have u2 := hk2.cell ct2 trivial
  have u3 := hk2.cell ct3 trivial
  have hkf : All w (w2.alloc (.cells #[.string f'.paper, .string f'.title, .int .i64 f'.pages, .slice ac q cc] 57)) := hk2.then_alloc _
  have hfb := heap_at w2 (.cells #[.string f'.paper, .string f'.title, .int .i64 f'.pages, .slice ac q cc] 57) _ rfl
  replace v0 := (Kept.alloc (fun _ => True) w2 (.cells #[.string f'.paper, .string f'.title, .int .i64 f'.pages, .slice ac q cc] 57)).cell v0 trivial
  replace v1 := (Kept.alloc (fun _ => True) w2 (.cells #[.string f'.paper, .string f'.title, .int .i64 f'.pages, .slice ac q cc] 57)).cell v1 trivial
  replace v2 := (Kept.alloc (fun _ => True) w2 (.cells #[.string f'.paper, .string f'.title, .int .i64 f'.pages, .slice ac q cc] 57)).cell v2 trivial
  obtain ⟨fb, hfbe⟩ : ∃ b, b = w2.heap.size := ⟨_, rfl⟩
  have HFB := Lib.hid hfbe
  rw [← hfbe] at hfb
  clear hfbe hw2 hk0 hk2 ct0 ct1 ct2 ct3
  go_upto_region 2 with fail
  simp only [← HFB.out]
  generalize w2.alloc (.cells #[.string f'.paper, .string f'.title, .int .i64 f'.pages, .slice ac q cc] 57) = w3 at *
  clear u0 u1 u2 u3
  go_wp2_with fail
  refine (leafOf_any first right av lv cv cs _ lf cf xs p _ (hv.keep RChap.ok hkf) (hf.keep RFin.ok hkf) hlf OK.out).mono ?_
  rintro e w4 ⟨hl1, -, hw4⟩
  have he := hl1 x HX.out
  subst he
  clear hl1 v0 v1 v2
  have hk4 : All w (w4.alloc (.cells #[.string x.paper, .int .i64 x.lo, .int .i64 x.hi] 42)) := (hkf.trans hw4).then_alloc _
  have hlb := heap_at w4 (.cells #[.string x.paper, .int .i64 x.lo, .int .i64 x.hi] 42) _ rfl
  have hfb4 := (hw4.then_alloc (.cells #[.string x.paper, .int .i64 x.lo, .int .i64 x.hi] 42)).heap hfb trivial
  obtain ⟨lb, hlbe⟩ : ∃ b, b = w4.heap.size := ⟨_, rfl⟩
  have HLB := Lib.hid hlbe
  rw [← hlbe] at hlb
  clear hlbe hw4 hkf hfb
  go_upto_region 3 with fail
  simp only [← HLB.out]
  generalize w4.alloc (.cells #[.string x.paper, .int .i64 x.lo, .int .i64 x.hi] 42) = w5 at *
  have HBX := Lib.hid (fun (wx : World) (kx : All w5 wx) => (⟨kx.cell (cell_at (i := 1) hfb4 rfl) trivial, kx.cell (cell_at (i := 3) hfb4 rfl) trivial, kx.cell (cell_at (i := 1) hlb rfl) trivial, kx.cell (cell_at (i := 2) hlb rfl) trivial⟩ : _ ∧ _ ∧ _ ∧ _))
  have c3 := (HBX.out _ (Kept.refl _ _)).2.1
  clear hfb4 hlb
  go_wp2_with fail
  clear c3
  go_loopw [10, 31] (fun o i wr => ∃ j : Nat, j ≤ q ∧ i = .int .i64 j ∧ Acc RStr 1 9 (fun _ => False) w5.heap.size wr o (ns.take j) ∧ All w5 wr) (fun _ i _ => q - (intOf i).toNat)
  case atStart => exact ⟨0, Nat.zero_le _, rfl, by rw [List.take_zero]; exact Acc.nil _ _ _ _ _ _, Kept.refl _ _⟩
  case round =>
    obtain ⟨j, hj, rfl, hacc, hwr⟩ := hrel
    obtain ⟨wo, rfl⟩ : ∃ wo : World, wo = wr := ⟨_, rfl⟩
    obtain ⟨oa, oc, rfl, hoc⟩ := hacc.form
    have hkr : All w wo := hk4.trans hwr
    have hszo := hwr.size
    have htl : (ns.take j).length = j := by rw [List.length_take, HNL.out]; omega
    rw [htl] at hacc hoc ⊢
    clear htl
    by_cases hjl : j < q
    · obtain ⟨bp, op, c, hap, -, ck, cn, hz1, hz2, hc, -, -⟩ := hcr.atCred hjl
      subst hap
      replace ck := hkr.cell ck trivial
      replace cn := hkr.cell cn trivial
      have HMEM := Lib.hid (List.mem_of_getElem? hc)
      have hln : lineB c.name 100 = true := (HF.out.creds.names c HMEM.out).2
      have hna : ns[j]? = some (initsB c.name) := by rw [HNS.out]; exact citeN_at hc
      have htk : ns.take (j + 1) = ns.take j ++ [initsB c.name] := by
        obtain ⟨h9, e9⟩ := List.getElem?_eq_some_iff.1 hna
        rw [List.take_succ_eq_append_getElem h9, e9]
      have hiz : (initsB c.name).size ≤ 100000 := initsB_small hln
      have hac : All wo (wo.alloc (.cells #[.string c.key, .string c.name] 61)) := Kept.alloc _ _ _
      have hcb := heap_at wo (.cells #[.string c.key, .string c.name] 61) _ rfl
      have cb1 := cell_at (i := 1) hcb rfl
      have HIN := Lib.hid (initialsOf_any c.name (wo.alloc (.cells #[.string c.key, .string c.name] 61)) hln (HG.out.keep (hkr.trans hac)))
      obtain ⟨nm, hnmd⟩ : ∃ m, m = initsB c.name := ⟨_, rfl⟩
      rw [← hnmd] at HIN htk hiz
      have HTK := Lib.hid htk
      clear hc hnmd hcb hna htk hln
      go_wp2_with fail
      refine HIN.out.mono ?_
      rintro e w7 ⟨rfl, hw7⟩
      have hk7 := hac.trans hw7
      have hacc7 := hacc.keepAll RStr.ok hk7
      have hsz7 := hk7.size
      have hlt7 : (ns.take j).length = j := by rw [List.length_take, HNL.out]; omega
      clear hacc ck cn cb1
      go_wp2_with (at_builtin; refine wp_append1 RStr.ok _ rfl _ _ 32 rfl w5.heap.size 9 (.string ⟨#[]⟩) 1 16 Tryz.underlying32 (by kernel_rfl) rfl (by decide) (fun _ => False) _ _ rfl (hacc7.keepAll RStr.ok (Kept.alloc _ _ _)) ⟨_, 0, none⟩ 1 [.string nm] rfl rfl (World.news_of_block (cs := #[.string nm]) (heap_alloc_new w7 _)) (by simp [Value.oneCell']) nm ⟨rfl, by omega⟩ (by omega) (by decide) (by simp; omega) ?_)
      intro p8 c8 w8 hac8 hg8 _
      have hk8 : All w5 w8 := (hwr.trans (hk7.then_alloc _)).trans2 (kept_of_grownS hg8) (fun i hi _ e => by have := (hacc7.lt i e).1; omega)
      clear hacc7 hg8
      go_wp2_with fail
      go_roundw
      case rel => exact ⟨j + 1, by omega, by go_num, by rw [HTK.out]; exact hac8, hk8⟩
      case measure => simp [intOf]; omega
    · have hdj : decide ((j : Int) < (q : Int)) = false := by simp; omega
      obtain rfl : j = q := by omega
      rw [List.take_of_length_le (by have := HNL.out; omega)] at hacc
      obtain ⟨m, rfl⟩ : ∃ m, j = m + 1 := ⟨j - 1, by omega⟩
      obtain ⟨g, cap9, cur9, hv9, hB9, hgb, hcap9, -, hcs9⟩ := hacc.flatRow (by rw [HNL.out]; omega)
      have HST := Lib.hid (fun (wx : World) (kx : All wo wx) (t : Nat) (y : ByteArray) (hy : ns[t]? = some y) => (show wx.cell? ⟨g, t, none⟩ = some (.string y) from by
          have hv9' := hv9
          have hq9 := hacc.keepAll RStr.ok kx
          rw [hv9'] at hq9
          have h9 := (hq9.flatAt flatStr (kx.heap hgb trivial) hy).2 0 (.string y) rfl
          exact cell_at (kx.heap hgb trivial) (by simpa using h9)))
      injection hv9 with e1 e2 e3
      subst e1 e3
      have hgs : g < wo.heap.size := (Array.getElem?_eq_some_iff.1 hgb).1
      obtain ⟨y, hy⟩ : ∃ y, ns[m]? = some y := ⟨_, List.getElem?_eq_getElem (show m < ns.length by rw [HNL.out]; omega)⟩
      have HY := Lib.hid hy
      have hyz : y.size ≤ 100000 := HNZ.out y (List.mem_of_getElem? hy)
      have hjsz : (joinB (ns.take m)).size ≤ 2100000 := by
        rw [← namesTo_join m (by rw [HNL.out]; omega)]
        have h9 := namesTo_size HNZ.out m
        have h8 : m * (100000 + 5) ≤ 20 * (100000 + 5) := Nat.mul_le_mul_right _ (by omega)
        omega
      have hjl9 : (ns.take m).length = m := by rw [List.length_take, HNL.out]; omega
      have hjn := join_any g oc (ns.take m) wo (fun t y hy => HST.out wo (Kept.refl _ _) t y (by
        have h9 := (List.getElem?_eq_some_iff.1 hy).1
        rw [List.getElem?_take_of_lt (by omega)] at hy
        exact hy)) hgs (by omega) (by rw [HNL.out] at hcap9; omega) (by omega)
      rw [hjl9] at hjn
      have hoc9 : m + 1 ≤ oc := by rw [HNL.out] at hcap9; exact hcap9
      obtain ⟨jo, hjo⟩ : ∃ s, s = joinB (ns.take m) := ⟨_, rfl⟩
      have HJO := Lib.hid hjo
      rw [← hjo] at hjn hjsz
      have HJN := Lib.hid hjn
      have fw : IntKind.i64.wrap (((m + 1 : Nat) : Int) - 1) = (m : Int) := by rw [IntWalk.i64_in _ (by omega)]; omega
      have fm0 : (0 : Int) ≤ (m : Int) := by omega
      have fm1 : (m : Int) ≤ (oc : Int) := by omega
      obtain ⟨z, hz⟩ : ∃ z : Int, z = ((m + 1 : Nat) : Int) := ⟨_, rfl⟩
      have HZ := Lib.hid hz
      clear hacc hgb e2 hjn hjo hy hcs9 hcap9
      go_upto_region 11 with fail
      refine HJN.out.mono ?_
      rintro e w6 ⟨rfl, hw6⟩
      have hk6 : All w w6 := hkr.trans hw6
      have hits := itoa_size x.lo (by omega) (by omega)
      have hits2 := itoa_size x.hi (by omega) (by omega)
      have HIT := Lib.hid (fun (z : Int) (hz : 0 ≤ z ∧ z ≤ 100000) (wx : World) (kx : All w wx) => itoa_any z (by omega) (by omega) wx (HP.out.keep kx))
      obtain ⟨il, hil9⟩ : ∃ m : ByteArray, m = ⟨(Lib.itoa x.lo).toArray⟩ := ⟨_, rfl⟩
      obtain ⟨ih, hih9⟩ : ∃ m : ByteArray, m = ⟨(Lib.itoa x.hi).toArray⟩ := ⟨_, rfl⟩
      rw [← hil9] at hits
      rw [← hih9] at hits2
      have HIL := Lib.hid (fun (wx : World) (kx : All w wx) => (show Calls Tryz.prog 35 #[.int .i64 x.lo] wx fun e w' => e = .returned (.string il) ∧ All wx w' from by rw [hil9]; exact HIT.out x.lo (by omega) wx kx))
      have HIH := Lib.hid (fun (wx : World) (kx : All w wx) => (show Calls Tryz.prog 35 #[.int .i64 x.hi] wx fun e w' => e = .returned (.string ih) ∧ All wx w' from by rw [hih9]; exact HIT.out x.hi (by omega) wx kx))
      have hc1 : (⟨#[32, 97, 110, 100, 32]⟩ : ByteArray).size = 5 := rfl
      have hc2 : (⟨#[58, 32]⟩ : ByteArray).size = 2 := rfl
      have hc3 : (⟨#[44, 32]⟩ : ByteArray).size = 2 := rfl
      have hc4 : (⟨#[45]⟩ : ByteArray).size = 1 := rfl
      obtain ⟨t0, ht0, hz0', g0⟩ := catRun Tryz.prog jo ⟨#[32, 97, 110, 100, 32]⟩ (by omega)
      obtain ⟨o1, ho1⟩ : ∃ o : ByteArray, o = (if 1 < m + 1 then t0 else jo) := ⟨_, rfl⟩
      have hoz : o1.size ≤ 2200000 := by rw [ho1]; split <;> omega
      obtain ⟨t1, ht1, hz1', g3⟩ := catRun Tryz.prog y ⟨#[58, 32]⟩ (by omega)
      obtain ⟨t2, ht2, hz2', g4⟩ := catRun Tryz.prog t1 f'.title (by omega)
      obtain ⟨t3, ht3, hz3', g5⟩ := catRun Tryz.prog t2 ⟨#[44, 32]⟩ (by omega)
      obtain ⟨t4, ht4, hz4', g6⟩ := catRun Tryz.prog t3 il (by omega)
      obtain ⟨t5, ht5, hz5', g7⟩ := catRun Tryz.prog o1 t4 (by omega)
      obtain ⟨t6, ht6, hz6', g8⟩ := catRun Tryz.prog ⟨#[45]⟩ ih (by omega)
      obtain ⟨t7, ht7, hz7', g9⟩ := catRun Tryz.prog t5 t6 (by omega)
      have hn9 : namesTo ns ns.length = o1 ++ y := by
        rw [HNL.out, namesTo_ref HNL.out HY.out, ho1, ← HJO.out]
        by_cases h9 : 1 < m + 1
        · rw [if_pos h9, if_pos h9, ht0]; rfl
        · rw [if_neg h9, if_neg h9, ba_nil']
      have HT5 := Lib.hid (show t5 = namesTo ns ns.length ++ (((colonB ++ titleOf xs p) ++ commaB) ++ numB x.lo) by
        rw [hn9, ht5, ht4, ht3, ht2, ht1, hil9, HTO.out]
        show o1 ++ ((((y ++ colonB) ++ f'.title) ++ commaB) ++ numB x.lo) = _
        simp only [ByteArray.append_assoc])
      have HT7 := Lib.hid (show t7 = (namesTo ns ns.length ++ (((colonB ++ titleOf xs p) ++ commaB) ++ numB x.lo)) ++ (dashB ++ numB x.hi) by rw [ht7, ht6, HT5.out, hih9]; rfl)
      have HST6 := Lib.hid (fun (wx : World) (kx : All w6 wx) => HST.out wx (hw6.trans kx) m y HY.out)
      have hk56 : All w5 w6 := hwr.trans hw6
      clear ht1 ht2 ht3 ht4 ht5 ht6 ht7 hz0' hz1' hz2' hz3' hz4' hz5' hz6' hz7' hil9 hih9 hits hits2 hc1 hc2 hc3 hc4 hn9 hoz
      by_cases hm1 : 1 < m + 1
      · have ho2 : o1 = t0 := by rw [ho1, if_pos hm1]
        have dm : decide ((1 : Int) < ((m + 1 : Nat) : Int)) = true := by simp; omega
        clear ht0 ho1
        go_upto_region 13 with fail
        try rw [← ho2]
        clear ho2 dm g0
        refine wp_region_inv 16 (by kernel_rfl) (by kernel_rfl) (by kernel_rfl) (fun _ wx => All w6 wx)
          (DL [QIs ((Value.string o1)), QIs ((Value.slice (some ⟨g, 0, none⟩) (m + 1) oc)), QIs ((Value.int .i64 ((m + 1 : Nat) : Int))), QIs (Value.int .i64 (m : Int)), QIs (Value.pointer (some ⟨g, m, none⟩)), QIs (Value.string y), QIs (Value.string t1), QIs (Value.pointer (some ⟨fb, 1, none⟩)), QIs (Value.string f'.title), QIs (Value.string t2), QIs (Value.string t3), QIs (Value.pointer (some ⟨lb, 1, none⟩)), QIs (Value.int .i64 x.lo), QIs (Value.string il), QIs (Value.string t4), QIs (Value.string t5)]) All
          (DL.keep (by simp only [List.forall_mem_cons, List.not_mem_nil, false_implies, implies_true, and_true]; exact ⟨QIs.stays _, QIs.stays _, QIs.stays _, QIs.stays _, QIs.stays _, QIs.stays _, QIs.stays _, QIs.stays _, QIs.stays _, QIs.stays _, QIs.stays _, QIs.stays _, QIs.stays _, QIs.stays _, QIs.stays _, QIs.stays _⟩)) ?_ ?_ ?_
        · exact Kept.drew _ _
        · intro i o t ho hd hi k' a' wx hk' hg hdf hts hoth hdeps
          have hszx := hg.size
          have hz : i = 0 ∨ i = 1 ∨ i = 2 ∨ i = 3 ∨ i = 4 ∨ i = 5 ∨ i = 6 ∨ i = 7 ∨ i = 8 ∨ i = 9 ∨ i = 10 ∨ i = 11 ∨ i = 12 ∨ i = 13 ∨ i = 14 ∨ i = 15 := by omega
          rcases hz with rfl | rfl | rfl | rfl | rfl | rfl | rfl | rfl | rfl | rfl | rfl | rfl | rfl | rfl | rfl | rfl
          · obtain rfl := Option.some.inj ho
            obtain rfl := Option.some.inj hd
            have e0 : a'.tmps.getD 14 undef = (Value.string o1) := tmp_of ((hoth 14 (by decide)).trans rfl)
            clear hoth hdeps hdf hts ho
            refine wp_via (fun K' hK => ?_)
            have HK := Lib.hid hK
            clear hK
            go_simp
            exact HK.out _ _ ⟨_, rfl, hg, Kept.refl _ _, rfl⟩
          · obtain rfl := Option.some.inj ho
            obtain rfl := Option.some.inj hd
            have e0 : a'.tmps.getD 10 undef = (Value.slice (some ⟨g, 0, none⟩) (m + 1) oc) := tmp_of ((hoth 10 (by decide)).trans rfl)
            clear hoth hdeps hdf hts ho
            refine wp_via (fun K' hK => ?_)
            have HK := Lib.hid hK
            clear hK
            go_simp
            exact HK.out _ _ ⟨_, rfl, hg, Kept.refl _ _, rfl⟩
          · obtain rfl := Option.some.inj ho
            obtain rfl := Option.some.inj hd
            have e0 : a'.tmps.getD 13 undef = (Value.int .i64 ((m + 1 : Nat) : Int)) := tmp_of ((hoth 13 (by decide)).trans rfl)
            clear hoth hdeps hdf hts ho
            refine wp_via (fun K' hK => ?_)
            have HK := Lib.hid hK
            clear hK
            go_simp
            exact HK.out _ _ ⟨_, rfl, hg, Kept.refl _ _, rfl⟩
          · obtain rfl := Option.some.inj ho
            obtain rfl := Option.some.inj hd
            have e0 : a'.tmps.getD 55 undef = (Value.int .i64 ((m + 1 : Nat) : Int)) := hdeps 2 (by decide) 55 rfl
            have fw2 : IntKind.i64.wrap (m : Int) = (m : Int) := IntWalk.i64_in _ (by omega)
            clear hoth hdeps hdf hts ho
            refine wp_via (fun K' hK => ?_)
            have HK := Lib.hid hK
            clear hK
            go_simp
            exact HK.out _ _ ⟨_, rfl, hg, Kept.refl _ _, rfl⟩
          · obtain rfl := Option.some.inj ho
            obtain rfl := Option.some.inj hd
            have e0 : a'.tmps.getD 54 undef = (Value.slice (some ⟨g, 0, none⟩) (m + 1) oc) := hdeps 1 (by decide) 54 rfl
            have e1 : a'.tmps.getD 56 undef = Value.int .i64 (m : Int) := hdeps 3 (by decide) 56 rfl
            have k9 : (m : Int) < (m : Int) + 1 := by omega
            clear hoth hdeps hdf hts ho
            refine wp_via (fun K' hK => ?_)
            have HK := Lib.hid hK
            clear hK
            go_simp
            exact HK.out _ _ ⟨_, rfl, hg, Kept.refl _ _, rfl⟩
          · obtain rfl := Option.some.inj ho
            obtain rfl := Option.some.inj hd
            have e0 : a'.tmps.getD 57 undef = Value.pointer (some ⟨g, m, none⟩) := hdeps 4 (by decide) 57 rfl
            have c9 := HST6.out wx hg
            clear hoth hdeps hdf hts ho
            refine wp_via (fun K' hK => ?_)
            have HK := Lib.hid hK
            clear hK
            go_simp
            exact HK.out _ _ ⟨_, rfl, hg, Kept.refl _ _, rfl⟩
          · obtain rfl := Option.some.inj ho
            obtain rfl := Option.some.inj hd
            have e0 : a'.tmps.getD 58 undef = Value.string y := hdeps 5 (by decide) 58 rfl
            clear hoth hdeps hdf hts ho
            refine wp_via (fun K' hK => ?_)
            have HK := Lib.hid hK
            clear hK
            go_simp
            exact HK.out _ _ ⟨_, rfl, hg, Kept.refl _ _, rfl⟩
          · obtain rfl := Option.some.inj ho
            obtain rfl := Option.some.inj hd
            have e0 : a'.tmps.getD 7 undef = Value.pointer (some ⟨fb, 0, none⟩) := tmp_of ((hoth 7 (by decide)).trans rfl)
            clear hoth hdeps hdf hts ho
            refine wp_via (fun K' hK => ?_)
            have HK := Lib.hid hK
            clear hK
            go_simp
            exact HK.out _ _ ⟨_, rfl, hg, Kept.refl _ _, rfl⟩
          · obtain rfl := Option.some.inj ho
            obtain rfl := Option.some.inj hd
            have e0 : a'.tmps.getD 60 undef = Value.pointer (some ⟨fb, 1, none⟩) := hdeps 7 (by decide) 60 rfl
            have c9 := (HBX.out wx (hk56.trans hg)).1
            clear hoth hdeps hdf hts ho
            refine wp_via (fun K' hK => ?_)
            have HK := Lib.hid hK
            clear hK
            go_simp
            exact HK.out _ _ ⟨_, rfl, hg, Kept.refl _ _, rfl⟩
          · obtain rfl := Option.some.inj ho
            obtain rfl := Option.some.inj hd
            have e0 : a'.tmps.getD 59 undef = Value.string t1 := hdeps 6 (by decide) 59 rfl
            have e1 : a'.tmps.getD 61 undef = Value.string f'.title := hdeps 8 (by decide) 61 rfl
            clear hoth hdeps hdf hts ho
            refine wp_via (fun K' hK => ?_)
            have HK := Lib.hid hK
            clear hK
            go_simp
            exact HK.out _ _ ⟨_, rfl, hg, Kept.refl _ _, rfl⟩
          · obtain rfl := Option.some.inj ho
            obtain rfl := Option.some.inj hd
            have e0 : a'.tmps.getD 62 undef = Value.string t2 := hdeps 9 (by decide) 62 rfl
            clear hoth hdeps hdf hts ho
            refine wp_via (fun K' hK => ?_)
            have HK := Lib.hid hK
            clear hK
            go_simp
            exact HK.out _ _ ⟨_, rfl, hg, Kept.refl _ _, rfl⟩
          · obtain rfl := Option.some.inj ho
            obtain rfl := Option.some.inj hd
            have e0 : a'.tmps.getD 8 undef = Value.pointer (some ⟨lb, 0, none⟩) := tmp_of ((hoth 8 (by decide)).trans rfl)
            clear hoth hdeps hdf hts ho
            refine wp_via (fun K' hK => ?_)
            have HK := Lib.hid hK
            clear hK
            go_simp
            exact HK.out _ _ ⟨_, rfl, hg, Kept.refl _ _, rfl⟩
          · obtain rfl := Option.some.inj ho
            obtain rfl := Option.some.inj hd
            have e0 : a'.tmps.getD 64 undef = Value.pointer (some ⟨lb, 1, none⟩) := hdeps 11 (by decide) 64 rfl
            have c9 := (HBX.out wx (hk56.trans hg)).2.2.1
            clear hoth hdeps hdf hts ho
            refine wp_via (fun K' hK => ?_)
            have HK := Lib.hid hK
            clear hK
            go_simp
            exact HK.out _ _ ⟨_, rfl, hg, Kept.refl _ _, rfl⟩
          · obtain rfl := Option.some.inj ho
            obtain rfl := Option.some.inj hd
            have e0 : a'.tmps.getD 65 undef = Value.int .i64 x.lo := hdeps 12 (by decide) 65 rfl
            clear hoth hdeps hdf hts ho
            refine wp_via (fun K' hK => ?_)
            have HK := Lib.hid hK
            clear hK
            go_simp
            refine (HIL.out wx (hk6.trans hg)).mono ?_
            rintro e w4' ⟨rfl, hw4'⟩
            exact HK.out _ _ ⟨_, rfl, hg.trans hw4', hw4', rfl⟩
          · obtain rfl := Option.some.inj ho
            obtain rfl := Option.some.inj hd
            have e0 : a'.tmps.getD 63 undef = Value.string t3 := hdeps 10 (by decide) 63 rfl
            have e1 : a'.tmps.getD 66 undef = Value.string il := hdeps 13 (by decide) 66 rfl
            clear hoth hdeps hdf hts ho
            refine wp_via (fun K' hK => ?_)
            have HK := Lib.hid hK
            clear hK
            go_simp
            exact HK.out _ _ ⟨_, rfl, hg, Kept.refl _ _, rfl⟩
          · obtain rfl := Option.some.inj ho
            obtain rfl := Option.some.inj hd
            have e0 : a'.tmps.getD 53 undef = (Value.string o1) := hdeps 0 (by decide) 53 rfl
            have e1 : a'.tmps.getD 67 undef = Value.string t4 := hdeps 14 (by decide) 67 rfl
            clear hoth hdeps hdf hts ho
            refine wp_via (fun K' hK => ?_)
            have HK := Lib.hid hK
            clear hK
            go_simp
            exact HK.out _ _ ⟨_, rfl, hg, Kept.refl _ _, rfl⟩
        · intro wx f9 hgx hd
          have e68 : f9 68 = Value.string t5 := hd 15 68 (by decide) rfl
          rw [show dsts _ 16 = [53, 54, 55, 56, 57, 58, 59, 60, 61, 62, 63, 64, 65, 66, 67, 68] from by kernel_rfl]
          simp only [List.map_cons, List.map_nil, puts, Act.put, e68, List.drop_succ_cons, List.drop_zero]
          generalize f9 53 = f53
          generalize f9 54 = f54
          generalize f9 55 = f55
          generalize f9 56 = f56
          generalize f9 57 = f57
          generalize f9 58 = f58
          generalize f9 59 = f59
          generalize f9 60 = f60
          generalize f9 61 = f61
          generalize f9 62 = f62
          generalize f9 63 = f63
          generalize f9 64 = f64
          generalize f9 65 = f65
          generalize f9 66 = f66
          generalize f9 67 = f67
          simp only [List.setIfInBounds_toArray, List.set_cons_zero, List.set_cons_succ]
          have hkx := hk6.trans hgx
          obtain ⟨-, -, y1, y2⟩ := HBX.out wx (hk56.trans hgx)
          clear hd e68 f9 hgx
          by_cases hgt : x.lo < x.hi
          · have dgt : decide (x.lo < x.hi) = true := by simpa using hgt
            have HF9 := Lib.hid (show t7 = rs by rw [H1'.out, citeT_two hgt, HT7.out])
            go_wp2_with fail
            refine (HIH.out _ hkx).mono ?_
            rintro e w7 ⟨rfl, hw7⟩
            go_wp2_with fail
            go_ret
            exact ⟨by rw [← HF9.out]; rfl, hkx.trans hw7⟩
          · have dgt : decide (x.lo < x.hi) = false := by simpa using hgt
            have HF9 := Lib.hid (show t5 = rs by rw [H1'.out, citeT_one hgt, HT5.out])
            go_wp2_with fail
            go_ret
            exact ⟨by rw [← HF9.out]; rfl, hkx⟩
      · have ho2 : o1 = jo := by rw [ho1, if_neg hm1]
        have dm : decide ((1 : Int) < ((m + 1 : Nat) : Int)) = false := by simp; omega
        clear ht0 ho1
        go_upto_region 13 with fail
        try rw [← ho2]
        clear ho2 dm g0
        refine wp_region_inv 16 (by kernel_rfl) (by kernel_rfl) (by kernel_rfl) (fun _ wx => All w6 wx)
          (DL [QIs ((Value.string o1)), QIs ((Value.slice (some ⟨g, 0, none⟩) (m + 1) oc)), QIs ((Value.int .i64 ((m + 1 : Nat) : Int))), QIs (Value.int .i64 (m : Int)), QIs (Value.pointer (some ⟨g, m, none⟩)), QIs (Value.string y), QIs (Value.string t1), QIs (Value.pointer (some ⟨fb, 1, none⟩)), QIs (Value.string f'.title), QIs (Value.string t2), QIs (Value.string t3), QIs (Value.pointer (some ⟨lb, 1, none⟩)), QIs (Value.int .i64 x.lo), QIs (Value.string il), QIs (Value.string t4), QIs (Value.string t5)]) All
          (DL.keep (by simp only [List.forall_mem_cons, List.not_mem_nil, false_implies, implies_true, and_true]; exact ⟨QIs.stays _, QIs.stays _, QIs.stays _, QIs.stays _, QIs.stays _, QIs.stays _, QIs.stays _, QIs.stays _, QIs.stays _, QIs.stays _, QIs.stays _, QIs.stays _, QIs.stays _, QIs.stays _, QIs.stays _, QIs.stays _⟩)) ?_ ?_ ?_
        · exact Kept.drew _ _
        · intro i o t ho hd hi k' a' wx hk' hg hdf hts hoth hdeps
          have hszx := hg.size
          have hz : i = 0 ∨ i = 1 ∨ i = 2 ∨ i = 3 ∨ i = 4 ∨ i = 5 ∨ i = 6 ∨ i = 7 ∨ i = 8 ∨ i = 9 ∨ i = 10 ∨ i = 11 ∨ i = 12 ∨ i = 13 ∨ i = 14 ∨ i = 15 := by omega
          rcases hz with rfl | rfl | rfl | rfl | rfl | rfl | rfl | rfl | rfl | rfl | rfl | rfl | rfl | rfl | rfl | rfl
          · obtain rfl := Option.some.inj ho
            obtain rfl := Option.some.inj hd
            have e0 : a'.tmps.getD 14 undef = (Value.string o1) := tmp_of ((hoth 14 (by decide)).trans rfl)
            clear hoth hdeps hdf hts ho
            refine wp_via (fun K' hK => ?_)
            have HK := Lib.hid hK
            clear hK
            go_simp
            exact HK.out _ _ ⟨_, rfl, hg, Kept.refl _ _, rfl⟩
          · obtain rfl := Option.some.inj ho
            obtain rfl := Option.some.inj hd
            have e0 : a'.tmps.getD 10 undef = (Value.slice (some ⟨g, 0, none⟩) (m + 1) oc) := tmp_of ((hoth 10 (by decide)).trans rfl)
            clear hoth hdeps hdf hts ho
            refine wp_via (fun K' hK => ?_)
            have HK := Lib.hid hK
            clear hK
            go_simp
            exact HK.out _ _ ⟨_, rfl, hg, Kept.refl _ _, rfl⟩
          · obtain rfl := Option.some.inj ho
            obtain rfl := Option.some.inj hd
            have e0 : a'.tmps.getD 13 undef = (Value.int .i64 ((m + 1 : Nat) : Int)) := tmp_of ((hoth 13 (by decide)).trans rfl)
            clear hoth hdeps hdf hts ho
            refine wp_via (fun K' hK => ?_)
            have HK := Lib.hid hK
            clear hK
            go_simp
            exact HK.out _ _ ⟨_, rfl, hg, Kept.refl _ _, rfl⟩
          · obtain rfl := Option.some.inj ho
            obtain rfl := Option.some.inj hd
            have e0 : a'.tmps.getD 55 undef = (Value.int .i64 ((m + 1 : Nat) : Int)) := hdeps 2 (by decide) 55 rfl
            have fw2 : IntKind.i64.wrap (m : Int) = (m : Int) := IntWalk.i64_in _ (by omega)
            clear hoth hdeps hdf hts ho
            refine wp_via (fun K' hK => ?_)
            have HK := Lib.hid hK
            clear hK
            go_simp
            exact HK.out _ _ ⟨_, rfl, hg, Kept.refl _ _, rfl⟩
          · obtain rfl := Option.some.inj ho
            obtain rfl := Option.some.inj hd
            have e0 : a'.tmps.getD 54 undef = (Value.slice (some ⟨g, 0, none⟩) (m + 1) oc) := hdeps 1 (by decide) 54 rfl
            have e1 : a'.tmps.getD 56 undef = Value.int .i64 (m : Int) := hdeps 3 (by decide) 56 rfl
            have k9 : (m : Int) < (m : Int) + 1 := by omega
            clear hoth hdeps hdf hts ho
            refine wp_via (fun K' hK => ?_)
            have HK := Lib.hid hK
            clear hK
            go_simp
            exact HK.out _ _ ⟨_, rfl, hg, Kept.refl _ _, rfl⟩
          · obtain rfl := Option.some.inj ho
            obtain rfl := Option.some.inj hd
            have e0 : a'.tmps.getD 57 undef = Value.pointer (some ⟨g, m, none⟩) := hdeps 4 (by decide) 57 rfl
            have c9 := HST6.out wx hg
            clear hoth hdeps hdf hts ho
            refine wp_via (fun K' hK => ?_)
            have HK := Lib.hid hK
            clear hK
            go_simp
            exact HK.out _ _ ⟨_, rfl, hg, Kept.refl _ _, rfl⟩
          · obtain rfl := Option.some.inj ho
            obtain rfl := Option.some.inj hd
            have e0 : a'.tmps.getD 58 undef = Value.string y := hdeps 5 (by decide) 58 rfl
            clear hoth hdeps hdf hts ho
            refine wp_via (fun K' hK => ?_)
            have HK := Lib.hid hK
            clear hK
            go_simp
            exact HK.out _ _ ⟨_, rfl, hg, Kept.refl _ _, rfl⟩
          · obtain rfl := Option.some.inj ho
            obtain rfl := Option.some.inj hd
            have e0 : a'.tmps.getD 7 undef = Value.pointer (some ⟨fb, 0, none⟩) := tmp_of ((hoth 7 (by decide)).trans rfl)
            clear hoth hdeps hdf hts ho
            refine wp_via (fun K' hK => ?_)
            have HK := Lib.hid hK
            clear hK
            go_simp
            exact HK.out _ _ ⟨_, rfl, hg, Kept.refl _ _, rfl⟩
          · obtain rfl := Option.some.inj ho
            obtain rfl := Option.some.inj hd
            have e0 : a'.tmps.getD 60 undef = Value.pointer (some ⟨fb, 1, none⟩) := hdeps 7 (by decide) 60 rfl
            have c9 := (HBX.out wx (hk56.trans hg)).1
            clear hoth hdeps hdf hts ho
            refine wp_via (fun K' hK => ?_)
            have HK := Lib.hid hK
            clear hK
            go_simp
            exact HK.out _ _ ⟨_, rfl, hg, Kept.refl _ _, rfl⟩
          · obtain rfl := Option.some.inj ho
            obtain rfl := Option.some.inj hd
            have e0 : a'.tmps.getD 59 undef = Value.string t1 := hdeps 6 (by decide) 59 rfl
            have e1 : a'.tmps.getD 61 undef = Value.string f'.title := hdeps 8 (by decide) 61 rfl
            clear hoth hdeps hdf hts ho
            refine wp_via (fun K' hK => ?_)
            have HK := Lib.hid hK
            clear hK
            go_simp
            exact HK.out _ _ ⟨_, rfl, hg, Kept.refl _ _, rfl⟩
          · obtain rfl := Option.some.inj ho
            obtain rfl := Option.some.inj hd
            have e0 : a'.tmps.getD 62 undef = Value.string t2 := hdeps 9 (by decide) 62 rfl
            clear hoth hdeps hdf hts ho
            refine wp_via (fun K' hK => ?_)
            have HK := Lib.hid hK
            clear hK
            go_simp
            exact HK.out _ _ ⟨_, rfl, hg, Kept.refl _ _, rfl⟩
          · obtain rfl := Option.some.inj ho
            obtain rfl := Option.some.inj hd
            have e0 : a'.tmps.getD 8 undef = Value.pointer (some ⟨lb, 0, none⟩) := tmp_of ((hoth 8 (by decide)).trans rfl)
            clear hoth hdeps hdf hts ho
            refine wp_via (fun K' hK => ?_)
            have HK := Lib.hid hK
            clear hK
            go_simp
            exact HK.out _ _ ⟨_, rfl, hg, Kept.refl _ _, rfl⟩
          · obtain rfl := Option.some.inj ho
            obtain rfl := Option.some.inj hd
            have e0 : a'.tmps.getD 64 undef = Value.pointer (some ⟨lb, 1, none⟩) := hdeps 11 (by decide) 64 rfl
            have c9 := (HBX.out wx (hk56.trans hg)).2.2.1
            clear hoth hdeps hdf hts ho
            refine wp_via (fun K' hK => ?_)
            have HK := Lib.hid hK
            clear hK
            go_simp
            exact HK.out _ _ ⟨_, rfl, hg, Kept.refl _ _, rfl⟩
          · obtain rfl := Option.some.inj ho
            obtain rfl := Option.some.inj hd
            have e0 : a'.tmps.getD 65 undef = Value.int .i64 x.lo := hdeps 12 (by decide) 65 rfl
            clear hoth hdeps hdf hts ho
            refine wp_via (fun K' hK => ?_)
            have HK := Lib.hid hK
            clear hK
            go_simp
            refine (HIL.out wx (hk6.trans hg)).mono ?_
            rintro e w4' ⟨rfl, hw4'⟩
            exact HK.out _ _ ⟨_, rfl, hg.trans hw4', hw4', rfl⟩
          · obtain rfl := Option.some.inj ho
            obtain rfl := Option.some.inj hd
            have e0 : a'.tmps.getD 63 undef = Value.string t3 := hdeps 10 (by decide) 63 rfl
            have e1 : a'.tmps.getD 66 undef = Value.string il := hdeps 13 (by decide) 66 rfl
            clear hoth hdeps hdf hts ho
            refine wp_via (fun K' hK => ?_)
            have HK := Lib.hid hK
            clear hK
            go_simp
            exact HK.out _ _ ⟨_, rfl, hg, Kept.refl _ _, rfl⟩
          · obtain rfl := Option.some.inj ho
            obtain rfl := Option.some.inj hd
            have e0 : a'.tmps.getD 53 undef = (Value.string o1) := hdeps 0 (by decide) 53 rfl
            have e1 : a'.tmps.getD 67 undef = Value.string t4 := hdeps 14 (by decide) 67 rfl
            clear hoth hdeps hdf hts ho
            refine wp_via (fun K' hK => ?_)
            have HK := Lib.hid hK
            clear hK
            go_simp
            exact HK.out _ _ ⟨_, rfl, hg, Kept.refl _ _, rfl⟩
        · intro wx f9 hgx hd
          have e68 : f9 68 = Value.string t5 := hd 15 68 (by decide) rfl
          rw [show dsts _ 16 = [53, 54, 55, 56, 57, 58, 59, 60, 61, 62, 63, 64, 65, 66, 67, 68] from by kernel_rfl]
          simp only [List.map_cons, List.map_nil, puts, Act.put, e68, List.drop_succ_cons, List.drop_zero]
          generalize f9 53 = f53
          generalize f9 54 = f54
          generalize f9 55 = f55
          generalize f9 56 = f56
          generalize f9 57 = f57
          generalize f9 58 = f58
          generalize f9 59 = f59
          generalize f9 60 = f60
          generalize f9 61 = f61
          generalize f9 62 = f62
          generalize f9 63 = f63
          generalize f9 64 = f64
          generalize f9 65 = f65
          generalize f9 66 = f66
          generalize f9 67 = f67
          simp only [List.setIfInBounds_toArray, List.set_cons_zero, List.set_cons_succ]
          have hkx := hk6.trans hgx
          obtain ⟨-, -, y1, y2⟩ := HBX.out wx (hk56.trans hgx)
          clear hd e68 f9 hgx
          by_cases hgt : x.lo < x.hi
          · have dgt : decide (x.lo < x.hi) = true := by simpa using hgt
            have HF9 := Lib.hid (show t7 = rs by rw [H1'.out, citeT_two hgt, HT7.out])
            go_wp2_with fail
            refine (HIH.out _ hkx).mono ?_
            rintro e w7 ⟨rfl, hw7⟩
            go_wp2_with fail
            go_ret
            exact ⟨by rw [← HF9.out]; rfl, hkx.trans hw7⟩
          · have dgt : decide (x.lo < x.hi) = false := by simpa using hgt
            have HF9 := Lib.hid (show t5 = rs by rw [H1'.out, citeT_one hgt, HT5.out])
            go_wp2_with fail
            go_ret
            exact ⟨by rw [← HF9.out]; rfl, hkx⟩
end Go.Proofs.YtbpbhpmkganefaaGreatDoor
