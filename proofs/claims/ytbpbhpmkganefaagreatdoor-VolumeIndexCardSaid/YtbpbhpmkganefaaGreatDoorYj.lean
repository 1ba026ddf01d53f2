/- SortFunc of entries. -/
import Derived.Test.YtbpbhpmkganefaaGreatDoorYg
import Derived.Test.YtbpbhpmkganefaaGreatDoorSq
import Derived.Test.YtbpbhpmkganefaaGreatDoorYh
import Derived.Test.YtbpbhpmkganefaaGreatDoorYp
import Derived.Test.YtbpbhpmkganefaaGreatDoorVe
import Derived.Test.YtbpbhpmkganefaaGreatDoorJb
import Derived.Test.YtbpbhpmkganefaaGreatDoorZm
namespace Go.Proofs.YtbpbhpmkganefaaGreatDoor
open Go.RowKit Go.Sort

/-- A function value compares entries. -/
def CmpL (P : Program) (g : FuncId) (cf : Lst3 → Lst3 → Int) : Prop := ∀ x y w, Calls P g #[lstVal x, lstVal y] w fun e w' => e = .returned (.int .i64 (cf x y)) ∧ AllD w w'
theorem sortLst_any {T : TypeId} {F : Nat → Prop} {B : Nat} (cf : Lst3 → Lst3 → Int) (hO : IsCmp cf) (g : FuncId) (eg : ∀ args w, (callFunc g args).run Tryz.prog w = .ok (.enter g args) w) (v : Value) (xs : List Lst3) (w : World) (h : Acc RLst 3 T F B w v xs) (hl : xs.length ≤ 1000000) (hcmp : CmpL Tryz.prog g cf) :
    Calls Tryz.prog 27 #[v, .func (.func g) #[] #[]] w fun e w' => e = .returned (.tuple #[]) ∧ ∃ qs : List Lst3, qs.Perm xs ∧ qs.Pairwise (fun x y => cf x y ≤ 0) ∧ Acc RLst 3 T F B w' v qs ∧ w.grownBy w' v.ownBlock := by
  rcases h.sortable flatLst with ⟨rfl, rfl⟩ | ⟨g0, cap, rfl, hb, hlt, hH, hS, hafter⟩
  · refine (Tryz.slices_SortFunc_lst_none none 0 _ w).mono ?_
    rintro e w' ⟨rfl, rfl⟩
    exact ⟨rfl, [], List.Perm.refl _, List.Pairwise.nil, h, ⟨rfl, rfl, rfl, Nat.le_refl _, fun _ _ _ => rfl⟩⟩
  · have hC := Tryz.slices_SortFunc_lst encLst (Flat.len flatLst) (Flat.one flatLst) cf hO.swo g #[] g0 0 cap xs.toArray w eg (fun m os dk _ x y => (hcmp x y _).mono fun e w' ⟨h1, h2⟩ => ⟨h1, h2.grow⟩) hH hlt (by simp; omega)
    simp only [List.size_toArray] at hC
    refine hC.mono ?_
    rintro e w' ⟨rfl, d', n, os, hp, hs, rfl⟩
    obtain ⟨hd, hperm⟩ := perm_list hp
    obtain ⟨ha, hg⟩ := hafter d' n os hd (fun x hx => hS x (hperm.mem_iff.1 hx))
    exact ⟨rfl, d'.toList, hperm, sorted_list hO hs hd, ha, hg⟩
end Go.Proofs.YtbpbhpmkganefaaGreatDoor

/- Index answers an index in memory. -/
namespace Go.Proofs.YtbpbhpmkganefaaGreatDoor
open Go.RowKit Go.Sort

theorem isK2 : IsK2 Tryz.prog 73 := ⟨⟨9, ⟨Tryz.underlying73, by kernel_rfl, by kernel_rfl, by kernel_rfl⟩, Tryz.underlying9⟩, ⟨Tryz.prog.types.size - 1, by kernel_rfl⟩⟩
theorem zeroInts (u : World) : (zeroValue 22).run Tryz.prog u = .ok (.slice none 0 0) u := by kernel_rfl
theorem boxK {w : World} {b : Nat} {t : TypeId} {a0 a1 : Value} (h : w.heap[b]? = some (.cells #[a0, a1] t (0, 0))) (u0 u1 : Value) :
    ((w.setCell ⟨b, 0, none⟩ u0).setCell ⟨b, 1, none⟩ u1).heap[b]? = some (.cells #[u0, u1] t (0, 0)) := by
  have h0 := heap_setCell_at w b 0 u0 _ _ _ h
  have h1 := heap_setCell_at _ b 1 u1 _ _ _ h0
  simpa using h1
/-- A new block. -/
def QNew (B : Nat) (t : TypeId) (zs : Array Value) (v : Value) (w : World) : Prop := ∃ b, v = .pointer (some ⟨b, 0, none⟩) ∧ B ≤ b ∧ w.heap[b]? = some (.cells zs t (0, 0))
theorem QNew.stays (B : Nat) (t : TypeId) (zs : Array Value) : Stays All (QNew B t zs) := fun _ _ _ k ⟨b, h1, h2, h3⟩ => ⟨b, h1, h2, k.heap h3 trivial⟩
/-- What Index answers. -/
def IdxPost (er : Int) (es : List Ent) (w : World) (e : Ending) (w' : World) : Prop :=
  (er ≠ 0 → e = .returned (.tuple #[.slice none 0 0, .int .i64 er])) ∧ (er = 0 → ∃ p c out, e = .returned (.tuple #[.slice p out.length c, .int .i64 0]) ∧ IdxOut es w' p out.length out) ∧ All w w'
abbrev RowsK (w : World) (B mb n : Nat) (vals : K2 → Value) (f : K2 → List Int) : Prop := RowK Tryz.prog 73 RInt 1 3 w B mb n vals f

set_option maxRecDepth 100000 in
set_option maxHeartbeats 25600000 in
theorem volIndex_any (first : Int) (right : Bool) (av : Option Addr) (lv cv : Nat) (cs : List Chap) (af : Option Addr) (lf cf : Nat) (xs : List Fin4) (w : World)
    (hv : Sl RChap 2 (fun _ => True) w av lv cs) (hf : Sl RFin 4 (fun _ => True) w af lf xs) (hlv : lv ≤ 1000) (hlf : lf ≤ 1000) (hg : Glob w) :
    Calls Tryz.prog 7 #[.agg #[.int .i64 first, .bool right, .slice av lv cv], .slice af lf cf] w (IdxPost (volF first right cs xs) (ents xs (lvs first right cs xs)) w) := by
  have HG := Lib.hid hg
  have hk0 : All w (w.alloc (.cells #[.int .i64 first, .bool right, .slice av lv cv] 30)) := Kept.alloc _ _ _
  have hblk := heap_at w (.cells #[.int .i64 first, .bool right, .slice av lv cv] 30) _ rfl
  have v0 := cell_at (i := 0) hblk rfl
  have v1 := cell_at (i := 1) hblk rfl
  have v2 := cell_at (i := 2) hblk rfl
  have hmm := @run_makeMap Tryz.prog
  clear hblk hg
  by_cases h0 : volF first right cs xs = 0
  · rw [h0]
    have OK := Lib.hid (VolOk.of h0)
    have hlv' : lv ≤ 40 := by have := OK.out.len; have := hv.len; omega
    have HRs := Lib.hid (finalsF_rises OK.out.fin)
    obtain ⟨ls, hls⟩ : ∃ ls, ls = lvs first right cs xs := ⟨_, rfl⟩
    have HLS := Lib.hid hls
    have HL4 := Lib.hid (show ls.length ≤ 400 by rw [hls]; exact lvs_len OK.out)
    rw [← hls]
    go_enter Tryz.func7, Tryz.ntmps7
    go_wp2_with fail
    refine (checkVolume_any first right av lv cv cs af lf cf xs _ (hv.keep RChap.ok hk0) (hf.keep RFin.ok hk0) hlv hlf (HG.out.keep hk0)).mono ?_
    rintro e w2 ⟨rfl, hw2⟩
    have hk2 := hk0.trans hw2
    replace v0 := hw2.cell v0 trivial
    replace v1 := hw2.cell v1 trivial
    replace v2 := hw2.cell v2 trivial
    rw [h0]
    clear hls h0
    have hk3 : All w (w2.alloc (.map #[] 0)) := hk2.then_alloc _
    have u0 := (Kept.alloc (fun _ => True) w2 (.map #[] 0)).cell v0 trivial
    have u1 := (Kept.alloc (fun _ => True) w2 (.map #[] 0)).cell v1 trivial
    have u2 := (Kept.alloc (fun _ => True) w2 (.map #[] 0)).cell v2 trivial
    clear v0 v1 v2
    have HM0 := Lib.hid (fun B => RowK.start Tryz.prog 73 RInt 1 3 w2 B)
    obtain ⟨mb, hmb⟩ : ∃ m, m = w2.heap.size := ⟨_, rfl⟩
    have HMB := Lib.hid hmb
    have hsm : (w2.alloc (.map #[] 0)).heap.size = mb + 1 := by rw [hmb]; simp
    have hszk := hk2.size
    have hmw : w.heap.size ≤ mb := by omega
    rw [← hmb] at HM0
    clear hszk hmb
    go_wp2_with fail
    simp only [← HMB.out]
    generalize w2.alloc (.map #[] 0) = w3 at *
    refine (leaves_any first right av lv cv cs af lf cf xs _ (hv.keep RChap.ok hk3) (hf.keep RFin.ok hk3) hlv' hlf HRs.out.1 HRs.out.2 (chapsF_found OK.out.chap) OK.out.lo OK.out.hi).mono ?_
    rintro e w4 ⟨v, rfl, hacc, hw4⟩
    obtain ⟨a, cap, rfl, hsl⟩ := hacc.sl RLeaf.ok (by decide) (G := fun k => k ≠ mb) (fun _ h => h.elim) (fun k hk => by have := (hacc.lt k hk).1; omega)
    change Sl RLeaf 3 (fun k => k ≠ mb) w4 a (lvs first right cs xs).length (lvs first right cs xs) at hsl
    rw [← HLS.out] at hsl
    obtain ⟨n, hn⟩ : ∃ n, n = ls.length := ⟨_, rfl⟩
    have HN := Lib.hid hn
    have hn4 : n ≤ 400 := by rw [hn]; exact HL4.out
    have hlen : (leavesF xs right first (allP cs)).length = n := by rw [hn, HLS.out]
    rw [hlen]
    rw [← hn] at hsl
    have hkq : All w w4 := hk3.trans hw4
    have hsz4 := hw4.size
    have HR0 := Lib.hid (RowK.keep flatInt (HM0.out w4.heap.size) hw4)
    have hmB : mb < w4.heap.size := by omega
    have HEND := Lib.hid (show ∀ wx, But mb w4 wx → All w wx from fun wx hw => hkq.trans2 hw (fun i hi _ e => by omega))
    have hf4 := hf.keep RFin.ok hkq
    clear hacc hn hlen u0 u1 u2 hsm HM0 hw4 hk3 hk2 hw2 hk0 hmm hsz4
    go_wp2_with fail
    go_loopw [29] (fun i wr => ∃ k : Nat, k ≤ n ∧ i = .int .i64 k ∧ (∃ m vals, m ≤ 20 * k ∧ RowsK wr w4.heap.size mb m vals (pagesAt (ents xs (ls.take k)))) ∧ But mb w4 wr) (fun i _ => n - (intOf i).toNat)
    case atStart => exact ⟨0, Nat.zero_le _, rfl, ⟨0, _, Nat.le_refl _, HR0.out⟩, Kept.refl _ _⟩
    case round =>
      clear HR0
      obtain ⟨k, hk, rfl, ⟨m, vals, hm, hrow⟩, hwr⟩ := hrel
      obtain ⟨wo, rfl⟩ : ∃ wo : World, wo = wr := ⟨_, rfl⟩
      by_cases hlt : k < n
      · obtain ⟨b, o, l, ha, -, c0, c1, c2, hz, hx, -, -⟩ := (hsl.keep RLeaf.ok hwr).atLeaf hlt
        subst ha
        have HX := Lib.hid hx
        obtain ⟨f, hlf4⟩ := LeafOk.of OK.out (by rw [← HLS.out]; exact hx)
        have HF := Lib.hid hlf4
        clear hx hlf4
        have hwa : But mb w4 (wo.alloc (.cells #[.string l.paper, .int .i64 l.lo, .int .i64 l.hi] 42)) := hwr.then_alloc _
        have hxb := heap_at wo (.cells #[.string l.paper, .int .i64 l.lo, .int .i64 l.hi] 42) _ rfl
        have hrowa := hrow.keep flatInt (Kept.alloc (fun _ => True) wo (.cells #[.string l.paper, .int .i64 l.lo, .int .i64 l.hi] 42))
        obtain ⟨xb, hxbe⟩ : ∃ xb, xb = wo.heap.size := ⟨_, rfl⟩
        have HXB := Lib.hid hxbe
        have hxm : xb ≠ mb := by have := hwr.size; omega
        have hxw : w4.heap.size ≤ xb := by rw [hxbe]; exact hwr.size
        rw [← hxbe] at hxb
        have x0 := cell_at (i := 0) hxb rfl
        clear hxbe hrow hwr
        go_wp2_with fail
        simp only [← HXB.out]
        generalize wo.alloc (.cells #[.string l.paper, .int .i64 l.lo, .int .i64 l.hi] 42) = wa at *
        refine (final_any af lf cf xs l.paper _ (hf.keep RFin.ok (HEND.out _ hwa)) hlf HRs.out.1).mono ?_
        rintro e w5 ⟨rfl, hw5⟩
        rw [HF.out.fin]
        have hwb : But mb w4 w5 := hwa.trans (Kept.all hw5)
        have hxb5 := hw5.heap hxb trivial
        have hrow5 := hrowa.keep flatInt hw5
        obtain ⟨ix, hix⟩ : ∃ i, i = cntOf xs l.paper := ⟨_, rfl⟩
        have HIX := Lib.hid (show xs[ix]? = some f by rw [hix]; exact HF.out.at')
        rw [← hix]
        have hixl : ix < lf := by
          have h1 := (List.getElem?_eq_some_iff.1 HIX.out).1
          have h2 := hf.len
          omega
        obtain ⟨bf, of, f', ac, cc, haf, -, -, -, -, ct, -, hcc, hcr, hf', -, -⟩ := hf.atFin hixl
        have hff : f' = f := by rw [HIX.out] at hf'; injection hf' with hf'; exact hf'.symm
        subst hff
        subst haf
        replace ct := (HEND.out _ hwb).cell ct trivial
        have g1 : (0 : Int) ≤ (ix : Int) := by omega
        have g2 : (ix : Int) < (lf : Int) := by omega
        obtain ⟨q, hq⟩ : ∃ q, q = f'.credits.length := ⟨_, rfl⟩
        have HQ := Lib.hid hq
        have hq20 : q ≤ 20 := by rw [hq]; exact HF.out.creds.len
        rw [← hq] at ct hcr hcc
        clear hf' hix x0 hxb hwa hrowa hw5 hq
        go_wp2_with fail
        clear ct g1 g2
        go_loopw [46] (fun i wr => ∃ j : Nat, j ≤ q ∧ i = .int .i64 j ∧ (∃ m vals, m ≤ 20 * k + j ∧ RowsK wr w4.heap.size mb m vals (pagesAt (ents xs (ls.take k) ++ entOf l.lo (f'.credits.take j)))) ∧ But mb w4 wr ∧ wr.heap[xb]? = some (.cells #[.string l.paper, .int .i64 l.lo, .int .i64 l.hi] 42 (0, 0))) (fun i _ => q - (intOf i).toNat)
        case atStart => exact ⟨0, Nat.zero_le _, rfl, ⟨m, vals, by omega, by rw [List.take_zero]; simpa [entOf] using hrow5⟩, hwb, hxb5⟩
        case round =>
          clear hrow5 hxb5 hwb
          obtain ⟨j, hj, rfl, ⟨m, vals, hm, hrow⟩, hwj, hxb⟩ := hrel
          obtain ⟨wi, rfl⟩ : ∃ wi : World, wi = wr := ⟨_, rfl⟩
          by_cases hjl : j < q
          · obtain ⟨bp, op, c, hap, -, ck, cn, hz1, hz2, hc, -, -⟩ := hcr.atCred hjl
            subst hap
            replace ck := (HEND.out _ hwj).cell ck trivial
            replace cn := (HEND.out _ hwj).cell cn trivial
            have HC := Lib.hid hc
            have HMEM := Lib.hid (List.mem_of_getElem? hc)
            have hnm : c.name.size ≤ 100 := lineB_small (HF.out.creds.names c HMEM.out).2
            have HOK := Lib.hid (cred_okK HF.out.creds HMEM.out)
            clear hc
            have hwc : But mb w4 (wi.alloc (.cells #[.string c.key, .string c.name] 61)) := hwj.then_alloc _
            have hcb := heap_at wi (.cells #[.string c.key, .string c.name] 61) _ rfl
            have hac : All wi (wi.alloc (.cells #[.string c.key, .string c.name] 61)) := Kept.alloc _ _ _
            obtain ⟨cb, hcbe⟩ : ∃ x, x = wi.heap.size := ⟨_, rfl⟩
            have HCB := Lib.hid hcbe
            have hcbw : w4.heap.size ≤ cb := by rw [hcbe]; exact hwj.size
            rw [← hcbe] at hcb
            have hszc : (wi.alloc (.cells #[.string c.key, .string c.name] 61)).heap.size = cb + 1 := by rw [hcbe]; simp
            have HCC := Lib.hid (fun (wx : World) (kx : All (wi.alloc (.cells #[.string c.key, .string c.name] 61)) wx) => (⟨kx.cell (cell_at (i := 0) hcb rfl) trivial, kx.cell (cell_at (i := 1) hcb rfl) trivial⟩ : _ ∧ _))
            clear hcbe hcb
            go_wp2_with fail
            simp only [← HCB.out]
            generalize wi.alloc (.cells #[.string c.key, .string c.name] 61) = wc at *
            have HGC := Lib.hid (fun (wx : World) (kx : All wc wx) => sortName_any c.name wx hnm (HG.out.keep ((HEND.out _ hwc).trans kx)))
            clear ck cn
            refine wp_region_inv 7 (by kernel_rfl) (by kernel_rfl) (by kernel_rfl) (fun _ wx => All wc wx)
              (DL [QIs (.pointer (some ⟨cb, 1, none⟩)), QIs (.string c.name), QIs (.string (sortB c.name)), QIs (.pointer (some ⟨cb, 0, none⟩)), QIs (.string c.key), QIs (.agg #[.string (sortB c.name), .string c.key]), QNew wc.heap.size 73 #[.string ⟨#[]⟩, .string ⟨#[]⟩]]) All
              (DL.keep (by simp only [List.forall_mem_cons, List.not_mem_nil, false_implies, implies_true, and_true]; exact ⟨QIs.stays _, QIs.stays _, QIs.stays _, QIs.stays _, QIs.stays _, QIs.stays _, QNew.stays _ _ _⟩)) ?_ ?_ ?_
            · exact Kept.drew _ _
            · intro i o t ho hd hi k' a' wx hk' hg hdf hts hoth hdeps
              have hszx := hg.size
              have hz : i = 0 ∨ i = 1 ∨ i = 2 ∨ i = 3 ∨ i = 4 ∨ i = 5 ∨ i = 6 := by omega
              rcases hz with rfl | rfl | rfl | rfl | rfl | rfl | rfl
              · obtain rfl := Option.some.inj ho
                obtain rfl := Option.some.inj hd
                have e0 : a'.tmps.getD 13 undef = .pointer (some ⟨cb, 0, none⟩) := tmp_of ((hoth 13 (by decide)).trans rfl)
                clear hoth hdeps hdf hts ho
                refine wp_via (fun K' hK => ?_)
                have HK := Lib.hid hK
                clear hK
                go_simp
                exact HK.out _ _ ⟨_, rfl, hg, Kept.refl _ _, rfl⟩
              · obtain rfl := Option.some.inj ho
                obtain rfl := Option.some.inj hd
                have e0 : a'.tmps.getD 50 undef = .pointer (some ⟨cb, 1, none⟩) := hdeps 0 (by decide) 50 rfl
                have c9 := (HCC.out _ hg).2
                clear hoth hdeps hdf hts ho
                refine wp_via (fun K' hK => ?_)
                have HK := Lib.hid hK
                clear hK
                go_simp
                exact HK.out _ _ ⟨_, rfl, hg, Kept.refl _ _, rfl⟩
              · obtain rfl := Option.some.inj ho
                obtain rfl := Option.some.inj hd
                have e0 : a'.tmps.getD 51 undef = .string c.name := hdeps 1 (by decide) 51 rfl
                clear hoth hdeps hdf hts ho
                refine wp_via (fun K' hK => ?_)
                have HK := Lib.hid hK
                clear hK
                go_simp
                refine (HGC.out wx hg).mono ?_
                rintro e w4' ⟨rfl, hw4'⟩
                exact HK.out _ _ ⟨_, rfl, hg.trans hw4', hw4', rfl⟩
              · obtain rfl := Option.some.inj ho
                obtain rfl := Option.some.inj hd
                have e0 : a'.tmps.getD 13 undef = .pointer (some ⟨cb, 0, none⟩) := tmp_of ((hoth 13 (by decide)).trans rfl)
                clear hoth hdeps hdf hts ho
                refine wp_via (fun K' hK => ?_)
                have HK := Lib.hid hK
                clear hK
                go_simp
                exact HK.out _ _ ⟨_, rfl, hg, Kept.refl _ _, rfl⟩
              · obtain rfl := Option.some.inj ho
                obtain rfl := Option.some.inj hd
                have e0 : a'.tmps.getD 53 undef = .pointer (some ⟨cb, 0, none⟩) := hdeps 3 (by decide) 53 rfl
                have c9 := (HCC.out _ hg).1
                clear hoth hdeps hdf hts ho
                refine wp_via (fun K' hK => ?_)
                have HK := Lib.hid hK
                clear hK
                go_simp
                exact HK.out _ _ ⟨_, rfl, hg, Kept.refl _ _, rfl⟩
              · obtain rfl := Option.some.inj ho
                obtain rfl := Option.some.inj hd
                have e0 : a'.tmps.getD 52 undef = .string (sortB c.name) := hdeps 2 (by decide) 52 rfl
                have e1 : a'.tmps.getD 54 undef = .string c.key := hdeps 4 (by decide) 54 rfl
                have e0' : a'.tmps[52]?.getD undef = .string (sortB c.name) := by rw [← Array.getD_eq_getD_getElem?]; exact e0
                have e1' : a'.tmps[54]?.getD undef = .string c.key := by rw [← Array.getD_eq_getD_getElem?]; exact e1
                clear hoth hdeps hdf hts ho
                refine wp_via (fun K' hK => ?_)
                have HK := Lib.hid hK
                clear hK
                go_simp
                exact HK.out _ _ ⟨_, rfl, hg, Kept.refl _ _, rfl⟩
              · obtain rfl := Option.some.inj ho
                obtain rfl := Option.some.inj hd
                clear hoth hdeps hdf hts ho
                refine wp_via (fun K' hK => ?_)
                have HK := Lib.hid hK
                clear hK
                go_simp
                exact HK.out _ _ ⟨_, rfl, hg.then_alloc _, Kept.alloc _ _ _, ⟨_, rfl, hszx, heap_at _ _ _ rfl⟩⟩
            · intro wx f9 hgx hd
              have e55 : f9 55 = .agg #[.string (sortB c.name), .string c.key] := hd 5 55 (by decide) rfl
              obtain ⟨nb, e14, hnb, hnh⟩ : QNew wc.heap.size 73 #[.string ⟨#[]⟩, .string ⟨#[]⟩] (f9 14) wx := hd 6 14 (by decide) rfl
              rw [show dsts _ 7 = [50, 51, 52, 53, 54, 55, 14] from by kernel_rfl]
              simp only [List.map_cons, List.map_nil, puts, Act.put, e55, e14, List.drop_succ_cons, List.drop_zero]
              generalize f9 50 = f50
              generalize f9 51 = f51
              generalize f9 52 = f52
              generalize f9 53 = f53
              generalize f9 54 = f54
              simp only [List.setIfInBounds_toArray, List.set_cons_zero, List.set_cons_succ]
              clear hd e55 e14 f9 HCC HGC
              obtain ⟨sn, hsn⟩ : ∃ s, s = sortB c.name := ⟨_, rfl⟩
              have HSN := Lib.hid hsn
              rw [← hsn]
              rw [← hsn] at HOK
              clear hsn
              have z0 := cell_at (i := 0) hnh rfl
              have z1 := cell_at (i := 1) hnh rfl
              have y0 := frozen_at (i := 0) hnh
              have y1 := frozen_at (i := 1) hnh
              have hfin := boxK hnh (.string sn) (.string c.key)
              have q0 := cell_at (i := 0) hfin rfl
              have q1 := cell_at (i := 1) hfin rfl
              have hsx := hgx.size
              have hix : All wi ((wx.setCell ⟨nb, 0, none⟩ (.string sn)).setCell ⟨nb, 1, none⟩ (.string c.key)) := (hac.trans hgx).trans2 ((Kept.setCell (F := fun i => i ≠ nb) wx ⟨nb, 0, none⟩ (.string sn) (by simp)).trans (Kept.setCell _ ⟨nb, 1, none⟩ (.string c.key) (by simp))) (fun i hi _ e => by have := hac.size; omega)
              have hlo := cell_at (i := 1) (hix.heap hxb trivial) rfl
              clear hnh hfin hgx
              go_upto_region 13 with fail
              clear z0 z1 y0 y1
              generalize (wx.setCell ⟨nb, 0, none⟩ (.string sn)).setCell ⟨nb, 1, none⟩ (.string c.key) = ws at *
              have hwA : All wi (ws.alloc (.cells #[.int .i64 l.lo] 3)) := hix.then_alloc _
              have hlb := heap_at ws (.cells #[.int .i64 l.lo] 3) _ rfl
              have hrA := hrow.keep flatInt hwA
              have hxA := hwA.heap hxb trivial
              obtain ⟨st, wB, hme, hbB, hszB, haccB, hput⟩ := RowK.entry flatInt hrA isK2 (t := 67) (te := 22) Tryz.underlying67 zeroInts (by omega) (by omega) HOK.out
              have HPUT := Lib.hid hput
              have hme' : (Instr.mapEntry 67 (.map (some mb)) (.agg #[.string sn, .string c.key])).run Tryz.prog (ws.alloc (.cells #[.int .i64 l.lo] 3)) = .ok (.tuple #[vals (sn, c.key), goInt st]) wB := hme
              obtain ⟨sv, hsv⟩ : ∃ sv, sv = goInt st := ⟨_, rfl⟩
              rw [← hsv] at hme' HPUT
              clear hme hput hsv
              have hsA : w4.heap.size ≤ (ws.alloc (.cells #[.int .i64 l.lo] 3)).heap.size := by have h1 := hwj.size; have h2 := hwA.size; omega
              have hsws : w4.heap.size ≤ ws.heap.size := by have h1 := hwj.size; have h2 := hix.size; omega
              have hlbB := hbB.heap hlb (show ws.heap.size ≠ mb by omega)
              have hxB := hbB.heap hxA hxm
              have hPL : (pagesAt (ents xs (ls.take k) ++ entOf l.lo (f'.credits.take j)) (sn, c.key)).length ≤ 100000 := by
                have h1 := pagesAt_len (ents xs (ls.take k) ++ entOf l.lo (f'.credits.take j)) (sn, c.key)
                have h2 := ents_len OK.out.fin (ls.take k)
                rw [List.length_append] at h1
                have h3 : (entOf l.lo (f'.credits.take j)).length ≤ 20 := by unfold entOf; rw [List.length_map, List.length_take]; omega
                rw [List.length_take] at h2
                omega
              go_wp2_with (at_builtin; refine wp_append1 RInt.ok _ rfl _ _ 22 rfl w4.heap.size 3 (.int .i64 0) 1 8 Tryz.underlying22 (by kernel_rfl) rfl (by decide) (fun _ => False) _ _ rfl haccB ⟨_, 0, none⟩ 1 [.int .i64 l.lo] rfl rfl (World.news_of_block (cs := #[.int .i64 l.lo]) hlbB) (by simp [Value.oneCell']) l.lo rfl (by omega) (by decide) (by omega) ?_)
              intro p8 c8 w8 hac8 hg8 hat8
              rw [show ws.heap.size + 1 = wB.heap.size from by rw [hszB]; simp] at hat8
              obtain ⟨w9, hes, hR9, hb9, hsz9⟩ := HPUT.out w8 _ l.lo hg8 hac8 hat8
              have hx9 : w9.heap[xb]? = some (.cells #[.string l.paper, .int .i64 l.lo, .int .i64 l.hi] 42 (0, 0)) := hb9.heap ((kept_of_grown hg8).heap hxB (fun e => haccB.notType hxB (by decide) _ e rfl)) hxm
              have hbut9 : But mb w4 w9 := (((hwj.trans (Kept.all hwA)).trans hbB).trans2 (kept_of_grown hg8) (fun i hi hf e => by have := (hrow.acc (sn, c.key)).lt i e; omega)).trans hb9
              go_wp2_with fail
              go_roundw
              case rel => exact ⟨j + 1, by omega, by go_num, ⟨m + 1, _, by omega, by rw [entOf_succ HC.out, ← List.append_assoc, pagesAt_snoc, ← HSN.out]; exact hR9⟩, hbut9, hx9⟩
              case measure => simp [intOf]; omega
          · have hdj : decide ((j : Int) < (q : Int)) = false := by simp; omega
            go_wp2_with fail
            go_roundw
            case rel => exact ⟨k + 1, by omega, by go_num, ⟨m, vals, by omega, by rw [ents_succ HX.out, HF.out.cr]; rw [List.take_of_length_le (l := f'.credits) (by have := HQ.out; omega)] at hrow; exact hrow⟩, hwj⟩
            case measure => simp [intOf]; omega
      · have hd : decide ((k : Int) < (n : Int)) = false := by simp; omega
        rw [List.take_of_length_le (by have := HN.out; omega)] at hrow
        obtain ⟨es, hes⟩ : ∃ es, es = ents xs ls := ⟨_, rfl⟩
        have HESK := Lib.hid (show ∀ e ∈ es, okK e.1 by rw [hes]; exact ents_okK OK.out.fin)
        have HESL := Lib.hid (show es.length ≤ 8000 by rw [hes]; have h1 := ents_len OK.out.fin ls; have h2 := HL4.out; omega)
        rw [← hes] at hrow ⊢
        have HES := Lib.hid hes
        clear hes
        obtain ⟨w5, cnt, hrange, hrg, hk5, hsz5⟩ := hrow.map.range isK2 Tryz.underlying67
        have hrow5 := hrow.keep flatInt hk5
        have hall5 : All w w5 := (HEND.out _ hwr).trans hk5
        obtain ⟨r, hr⟩ : ∃ r, r = wo.heap.size := ⟨_, rfl⟩
        have HRLT := Lib.hid (show ∀ q i, (vals q).ownBlock = some i → i ≠ r from fun q i hi => by have := (hrow.acc q).lt i hi; omega)
        have hwr4 := hwr.size
        have hr4 : w4.heap.size ≤ r := by omega
        have hr5 : r < w5.heap.size := by omega
        have hmr : mb < r := by omega
        rw [← hr] at hrange hrg
        clear hrow hr hwr hsz5 hk5 hsl hwr4
        have eg : ∀ args w, (callFunc 28 args).run Tryz.prog w = .ok (.enter 28 args) w := enters_of Tryz.func28 (by kernel_rfl) rfl
        have HEG := Lib.hid eg
        clear eg
        have HROW5 := Lib.hid hrow5
        have HALL5 := Lib.hid hall5
        clear hrow5 hall5
        go_wp2_with fail
        go_loopw [15] (fun o wr => ∃ left cnt out, RangeK Tryz.prog 73 wr mb r m (fun q => if (pagesAt es q).isEmpty = true then none else some (vals q)) left cnt ∧ Acc RLst 3 48 (fun _ => False) w5.heap.size wr o out ∧ (out.map kOf).Nodup ∧ (∀ q, okK q → ((∃ x ∈ out, kOf x = q) ↔ (pagesAt es q ≠ [] ∧ ¬ left q))) ∧ (∀ x ∈ out, rowV x = vals (kOf x)) ∧ Kept (fun i => i ≠ r) w5 wr) (fun _ wr => wr.rangeLeft mb r)
        case atStart =>
          refine ⟨_, cnt, [], hrg, Acc.nil _ _ _ _ _ _, List.nodup_nil, fun q hq => ?_, fun x hx => absurd hx (by simp), Kept.refl _ _⟩
          constructor
          · rintro ⟨x, hx, -⟩
            cases hx
          · rintro ⟨h1, h2⟩
            exact absurd (by simp [h1]) h2
        case round =>
          clear hrange hrg
          obtain ⟨left, cn, out, hrg, hacc, hnd, hmem, hval, hwr⟩ := hrel
          obtain ⟨wq, rfl⟩ : ∃ wq : World, wq = wr := ⟨_, rfl⟩
          obtain ⟨oa, oc, rfl, hoc⟩ := hacc.form
          have hmp : ∀ x ∈ out, pagesAt es (kOf x) ≠ [] := fun x hx => ((hmem (kOf x) ⟨x.hn, x.hk⟩).1 ⟨x, hx, rfl⟩).1
          have hol : out.length ≤ 8000 := Nat.le_trans (keys_len hnd hmp) HESL.out
          have HMEM := Lib.hid hmem
          have HVAL := Lib.hid hval
          have HND := Lib.hid hnd
          clear hmem hval hnd hmp
          rcases hrg.next isK2 0 with ⟨hl0, hrun⟩ | ⟨q, v, w6, cn', hqk, hlq, hms, hrun, hrg6, hcl, hb6, hsz6, hen⟩
          · have IDX := Lib.hid (show IdxM es wq w4.heap.size (.slice oa out.length oc) out from
                ⟨hacc.base0 (by omega), HND.out, fun q => by
                  by_cases hq : okK q
                  · rw [HMEM.out q hq]
                    exact ⟨fun h => h.1, fun h => ⟨h, hl0 q hq⟩⟩
                  · refine ⟨fun ⟨x, hx, e⟩ => absurd (by rw [← e]; exact ⟨x.hn, x.hk⟩) hq, fun h => ?_⟩
                    obtain ⟨z, l, hz⟩ := List.exists_cons_of_ne_nil h
                    exact absurd (HESK.out _ (pagesAt_mem (z := z) (by rw [hz]; simp))) hq,
                fun x hx => by
                  rw [HVAL.out x hx]
                  exact (HROW5.out.acc (kOf x)).flatKeep flatInt hwr (fun i hi => HRLT.out _ i hi),
                fun x hx y hy hxy i hi => by
                  rw [HVAL.out x hx] at hi
                  rw [HVAL.out y hy]
                  exact HROW5.out.sep _ _ i hxy hi⟩)
            have hall : All w wq := HALL5.out.trans2 hwr (fun i hi _ e => by have := hkq.size; omega)
            have hlow : ∀ i, (Value.slice oa out.length oc).ownBlock = some i → w5.heap.size ≤ i := fun i hi => (hacc.lt i hi).1
            have hsz54 := hkq.size
            clear hacc hrg hwr hl0
            go_wp2_with fail
            refine (sortLst_any cfL isCmpL 28 HEG.out _ out _ IDX.out.acc (by omega) cmpP_any).mono ?_
            rintro e w7 ⟨rfl, qs, hp, hs, ha, hg7⟩
            obtain ⟨pp, pc, hpv, hout⟩ := IDX.out.done hp hs ha hg7
            injection hpv with e1 e2 e3
            subst e1 e3
            have HE2 := Lib.hid e2
            have hall7 : All w w7 := hall.trans2 (kept_of_grown hg7) (fun i hi _ e => by have := hlow i e; omega)
            have HOUT := Lib.hid hout
            clear hp hs ha hg7 hout hlow e2
            go_wp2_with fail
            go_ret2
            exact ⟨fun h => absurd rfl h, fun _ => ⟨oa, oc, qs, by rw [← HE2.out]; rfl, by rw [← HES.out]; exact HOUT.out⟩, hall7⟩
          · have hfq : pagesAt es q ≠ [] := fun e => by simp [e] at hms
            have hvq : v = vals q := by simp [hfq] at hms; exact hms.symm
            obtain ⟨pa, pc, hpv, -⟩ := (HROW5.out.acc q).form
            obtain ⟨pl, hpl⟩ : ∃ n, n = (pagesAt es q).length := ⟨_, rfl⟩
            rw [← hpl] at hpv
            subst hvq
            rw [hpv] at hrun hen
            obtain ⟨s1, s2⟩ := q
            have hen' : (Instr.entry (.pointer (some ⟨r, 0, none⟩))).run Tryz.prog w6 = .ok (.tuple #[.agg #[.string s1, .string s2], .slice pa pl pc]) w6 := hen
            have hrun' : (Instr.next (.pointer (some ⟨r, 0, none⟩)) false 0).run Tryz.prog wq = .ok (.tuple #[.bool true, .agg #[.string s1, .string s2], .slice pa pl pc]) w6 := hrun
            have hkk : All w6 (w6.alloc (.cells #[.string s1, .string s2] 73)) := Kept.alloc _ _ _
            have hkb := heap_at w6 (.cells #[.string s1, .string s2] 73) _ rfl
            have k0 := cell_at (i := 0) hkb rfl
            have k1 := cell_at (i := 1) hkb rfl
            have hac6 := (hacc.keep RLst.ok hb6 (fun _ h => h.elim) (fun i hi e => by have := (hacc.lt i hi).1; omega)).keepAll RLst.ok hkk
            have hrg7 := hrg6.keep hkk trivial trivial
            have hwr7 : Kept (fun i => i ≠ r) w5 (w6.alloc (.cells #[.string s1, .string s2] 73)) := (hwr.trans hb6).trans (Kept.all hkk)
            have hs57 := hwr7.size
            have HC := Lib.hid (And.intro hcl hrg.left_eq)
            have HQK := Lib.hid hqk
            have HLQ := Lib.hid hlq
            have HFQ := Lib.hid hfq
            have HPV := Lib.hid hpv
            have HB7 := Lib.hid (show w5.heap.size ≤ (w6.alloc (.cells #[.string s1, .string s2] 73)).heap.size by have h1 := hwr.size; have h2 := hb6.size; simp; omega)
            have hlow : ∀ i, (Value.slice oa out.length oc).ownBlock = some i → w5.heap.size ≤ i := fun i hi => (hacc.lt i hi).1
            have HLOW := Lib.hid hlow
            clear hacc hwr hb6 hrg hcl hqk hlq hfq hpv hms hrg6 hen hrun hkb hsz6 hpl hlow
            go_upto_region 20 with fail
            clear hrun' hen'
            generalize w6.alloc (.cells #[.string s1, .string s2] 73) = w7 at *
            go_wp2_with (at_builtin; refine wp_append1 RLst.ok _ rfl _ _ 34 rfl w5.heap.size 48 (.agg #[.string ⟨#[]⟩, .string ⟨#[]⟩, .slice none 0 0]) 3 56 Tryz.underlying34 (by kernel_rfl) rfl (by decide) (fun _ => False) _ _ rfl (hac6.keepAll RLst.ok (Kept.alloc _ _ _)) ⟨_, 0, none⟩ 1 [.string s1, .string s2, .slice pa pl pc] rfl rfl (World.news_of_block (cs := #[.string s1, .string s2, .slice pa pl pc]) (heap_alloc_new w7 _)) (by simp [Value.oneCell']) (⟨s1, s2, pa, pl, pc, HQK.out.1, HQK.out.2⟩ : Lst3) ⟨rfl, trivial⟩ (by omega) (by decide) (by simp; have := HB7.out; omega) ?_)
            intro p8 c8 w8 hac8 hg8 _
            have hk78 : All w7 (w7.alloc (.cells #[.string s1, .string s2, .slice pa pl pc] 48)) := Kept.alloc _ _ _
            have hrg8 := (hrg7.keep hk78 trivial trivial).keep (kept_of_grown hg8) (fun e => by have := HLOW.out _ e; omega) (fun e => by have := HLOW.out _ e; omega)
            have hwr8 : Kept (fun i => i ≠ r) w5 w8 := (hwr7.trans (Kept.all hk78)).trans2 (kept_of_grown hg8) (fun i hi _ e => by have := HLOW.out _ e; omega)
            have HAC8 := Lib.hid hac8
            clear hk78 hg8 hac8 hac6 hrg7 hwr7 k0 k1
            go_wp2_with fail
            go_roundw
            case rel =>
              refine ⟨_, cn', out ++ [(⟨s1, s2, pa, pl, pc, HQK.out.1, HQK.out.2⟩ : Lst3)], hrg8, HAC8.out, ?_, fun p hp => ?_, fun x hx => ?_, hwr8⟩
              · rw [List.map_append, List.map_cons, List.map_nil, List.nodup_append]
                refine ⟨HND.out, by simp, fun a ha b hb => ?_⟩
                obtain ⟨x, hx, rfl⟩ := List.mem_map.1 ha
                obtain rfl : b = (s1, s2) := by simpa using hb
                intro e
                exact ((HMEM.out _ HQK.out).1 ⟨x, hx, e⟩).2 HLQ.out
              · by_cases hps : p = (s1, s2)
                · subst hps
                  exact ⟨fun _ => ⟨HFQ.out, fun h => h.2 rfl⟩, fun _ => ⟨(⟨s1, s2, pa, pl, pc, HQK.out.1, HQK.out.2⟩ : Lst3), List.mem_append_right _ (by simp), rfl⟩⟩
                · constructor
                  · rintro ⟨x, hx, e⟩
                    rcases List.mem_append.1 hx with hx | hx
                    · have h1 := (HMEM.out p hp).1 ⟨x, hx, e⟩
                      exact ⟨h1.1, fun h => h1.2 h.1⟩
                    · obtain rfl : x = _ := by simpa using hx
                      exact absurd e.symm hps
                  · rintro ⟨h1, h2⟩
                    obtain ⟨x, hx, e⟩ := (HMEM.out p hp).2 ⟨h1, fun h => h2 ⟨h, hps⟩⟩
                    exact ⟨x, List.mem_append_left _ hx, e⟩
              · rcases List.mem_append.1 hx with hx | hx
                · exact HVAL.out x hx
                · obtain rfl : x = _ := by simpa using hx
                  exact HPV.out.symm
            case measure => rw [hrg8.left_eq, HC.out.2]; exact HC.out.1
  · obtain ⟨er, her⟩ : ∃ er, er = volF first right cs xs := ⟨_, rfl⟩
    have hne : (er != 0) = true := by rw [her]; simpa using h0
    have HR := Lib.hid her
    go_enter Tryz.func7, Tryz.ntmps7
    go_wp2_with fail
    refine (checkVolume_any first right av lv cv cs af lf cf xs _ (hv.keep RChap.ok hk0) (hf.keep RFin.ok hk0) hlv hlf (HG.out.keep hk0)).mono ?_
    rintro e w2 ⟨rfl, hw2⟩
    have hk2 := hk0.trans hw2
    rw [← her]
    rw [← her] at h0
    clear her
    go_wp2_with fail
    go_ret2
    exact ⟨fun _ => by rw [← HR.out]; rfl, fun h => absurd (HR.out.trans h) h0, hk2⟩
end Go.Proofs.YtbpbhpmkganefaaGreatDoor
