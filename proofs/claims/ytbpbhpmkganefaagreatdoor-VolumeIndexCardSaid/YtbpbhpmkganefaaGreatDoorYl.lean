/- IndexOf answers an index in memory. -/
import Derived.Test.YtbpbhpmkganefaaGreatDoorYh
import Derived.Test.YtbpbhpmkganefaaGreatDoorYk
import Derived.Test.YtbpbhpmkganefaaGreatDoorYp
import Derived.Test.YtbpbhpmkganefaaGreatDoorYj
import Derived.Test.YtbpbhpmkganefaaGreatDoorZm
import Derived.Test.YtbpbhpmkganefaaGreatDoorJc
namespace Go.Proofs.YtbpbhpmkganefaaGreatDoor
open Go.RowKit Go.Sort

/-- What holds while the operations come in whatever order: nothing but row u changes, and it does not ahead of the append (operation 10). -/
def GrG (wa : World) (u : Value) (L : Nat → Bool) (w : World) : Prop := Kept (fun i => u.ownBlock ≠ some i) wa w ∧ (L 10 = false → All wa w)
/-- How each may change the world. -/
def GrM (u : Value) (j : Nat) (w w' : World) : Prop := if j = 10 then Kept (fun i => u.ownBlock ≠ some i) w w' else All w w'
theorem grG_same {wa w : World} {u : Value} {L : Nat → Bool} {i : Nat} (h : GrG wa u L w) (hi : i ≠ 10) : GrG wa u (fun j => if j = i then true else L j) w := ⟨h.1, fun hL => h.2 (by simpa [show ¬ 10 = i from fun e => hi e.symm] using hL)⟩
theorem grG_alloc {wa w : World} {u : Value} {L : Nat → Bool} {i : Nat} (h : GrG wa u L w) (hi : i ≠ 10) (o : Obj) : GrG wa u (fun j => if j = i then true else L j) (w.alloc o) := ⟨h.1.then_alloc o, fun hL => (h.2 (by simpa [show ¬ 10 = i from fun e => hi e.symm] using hL)).then_alloc o⟩
/-- A row of one number, new since size z. -/
def DOne (z : Nat) (y : Int) (v : Value) (w : World) : Prop := ∃ b, v = .slice (some ⟨b, 0, none⟩) 1 1 ∧ z ≤ b ∧ w.heap[b]? = some (.cells #[.int .i64 y] 3 (0, 0))
theorem DOne.keep {z j : Nat} {y : Int} {v u : Value} {w w' : World} (h : DOne z y v w) (hz : ∀ i, u.ownBlock = some i → i < z) (hm : GrM u j w w') : DOne z y v w' := by
  obtain ⟨b, h1, h2, h3⟩ := h
  refine ⟨b, h1, h2, ?_⟩
  unfold GrM at hm
  split at hm
  · exact hm.heap h3 (fun e => by have := hz _ e; omega)
  · exact hm.heap h3 trivial
/-- What the append has left: the row with one number more; nothing else has changed since. -/
def DApI (wa : World) (B : Nat) (ys : List Int) (u : Value) (z : Int) (v : Value) (w : World) : Prop :=
  ∃ wx w7 p c, v = .slice p (ys.length + 1) c ∧ All wa wx ∧ Acc RInt 1 3 (fun _ => False) B w7 (.slice p (ys.length + 1) c) (ys ++ [z]) ∧ wx.grownBy w7 u.ownBlock ∧ ((Value.slice p (ys.length + 1) c).ownBlock = u.ownBlock ∨ (Value.slice p (ys.length + 1) c).ownBlock = some wx.heap.size) ∧ All w7 w
theorem DApI.keep {wa w w' : World} {B : Nat} {ys : List Int} {u : Value} {z : Int} {v : Value} (h : DApI wa B ys u z v w) (k : All w w') : DApI wa B ys u z v w' := by
  obtain ⟨wx, w7, p, c, h1, h2, h3, h4, h5, h6⟩ := h
  exact ⟨wx, w7, p, c, h1, h2, h3, h4, h5, h6.trans k⟩
theorem grown_then {a b c : World} {o : Option Nat} (h : a.grownBy b o) (k : All b c) : a.grownBy c o :=
  ⟨k.os.trans h.os, k.tape.trans h.tape, k.output.trans h.output, Nat.le_trans h.size k.size, fun i hi hne => (k.block i (Nat.lt_of_lt_of_le hi h.size) trivial).trans (h.block i hi hne)⟩
/-- The append, whatever came behind it, and the store. -/
theorem IdxR.late {es : List Ent} {q : K2} {k B g n cap : Nat} {wa : World} {out : List Lst3} (h : IdxR es q k wa B (.slice (some ⟨g, 0, none⟩) n cap) out) {x : Lst3} (hx : out[k]? = some x) (hq : kOf x = q) {z : Int} {v : Value} {w : World} (hd : DApI wa B (pagesAt es q) (rowV x) z v w) :
    ∃ p' n' c', v = .slice p' n' c' ∧ w.cell? ⟨g, k * 3 + 2, none⟩ = some (rowV x) ∧ w.frozen? ⟨g, k * 3 + 2, none⟩ = false ∧ g < w.heap.size ∧ IdxM (es ++ [(q, z)]) (w.setCell ⟨g, k * 3 + 2, none⟩ (.slice p' n' c')) B (.slice (some ⟨g, 0, none⟩) n cap) (out.set k (withRow x p' n' c')) ∧
      (∀ w2 : World, All w2 wa → w2.heap.size ≤ B → All w2 (w.setCell ⟨g, k * 3 + 2, none⟩ (.slice p' n' c'))) ∧
      (∀ (b : Nat) (cs : Array Value) (t : TypeId), wa.heap[b]? = some (.cells cs t (0, 0)) → 3 ≠ t → 48 ≠ t → (w.setCell ⟨g, k * 3 + 2, none⟩ (.slice p' n' c')).heap[b]? = some (.cells cs t (0, 0))) := by
  obtain ⟨wx, w7, p', c', rfl, hax, hacc, hg, hat, hl⟩ := hd
  have hmx := List.mem_of_getElem? hx
  have h1 := h.keep hax
  have hgW := grown_then hg hl
  obtain ⟨hM, hbut⟩ := h1.step hx hq (hacc.keepAll RInt.ok hl) hgW hat rfl
  have haW := h1.acc.flatKeep flatLst (kept_of_grown hgW) (fun i hi e => h1.apart x hmx i e hi)
  have hkn : k < out.length := (List.getElem?_eq_some_iff.1 hx).1
  obtain ⟨g', cap', cur, hv, hB, hblk, -, -, -⟩ := haW.flatRow (by omega)
  cases hv
  obtain ⟨-, hc⟩ := haW.flatAt flatLst hblk hx
  have hg0 := h.acc.lt g rfl
  refine ⟨p', _, c', rfl, cell_at hblk (hc 2 (rowV x) rfl), frozen_at hblk, (Array.getElem?_eq_some_iff.1 hblk).1, hM, fun w2 hw2 hB2 => ?_, fun b cs t hb ht1 ht2 => ?_⟩
  · have e1 : All w2 w := (hw2.trans hax).trans2 (kept_of_grown hgW) (fun i hi _ e => by have := ((h1.row x hmx).lt i e).1; omega)
    exact e1.trans2 hbut (fun i hi _ e => by omega)
  · have hbx := hax.heap hb trivial
    have e1 := (kept_of_grown hgW).heap hbx (fun e => (h1.row x hmx).notType hbx ht1 _ e rfl)
    exact hbut.heap e1 (fun e => h1.acc.notType hbx ht2 b (by rw [e]; rfl) rfl)
/-- What IndexOf answers. -/
def IdxPost1 (es : List Ent) (w : World) (e : Ending) (w' : World) : Prop := ∃ p c out, e = .returned (.slice p out.length c) ∧ IdxOut es w' p out.length out ∧ All w w'

set_option maxRecDepth 100000 in
set_option maxHeartbeats 25600000 in
theorem indexOf_any (first : Int) (right : Bool) (av : Option Addr) (lv cv : Nat) (cs : List Chap) (af : Option Addr) (lf cf : Nat) (xs : List Fin4) (w : World)
    (hv : Sl RChap 2 (fun _ => True) w av lv cs) (hf : Sl RFin 4 (fun _ => True) w af lf xs) (hlf : lf ≤ 1000) (hok : VolOk first right cs xs) (hg : GlobS w) :
    Calls Tryz.prog 13 #[.agg #[.int .i64 first, .bool right, .slice av lv cv], .slice af lf cf] w (IdxPost1 (ents xs (lvs first right cs xs)) w) := by
  have HG := Lib.hid hg
  have OK := Lib.hid hok
  have hlv' : lv ≤ 40 := by have := OK.out.len; have := hv.len; omega
  have HRs := Lib.hid (finalsF_rises OK.out.fin)
  have hk0 : All w (w.alloc (.cells #[.int .i64 first, .bool right, .slice av lv cv] 30)) := Kept.alloc _ _ _
  have hblk := heap_at w (.cells #[.int .i64 first, .bool right, .slice av lv cv] 30) _ rfl
  have v0 := cell_at (i := 0) hblk rfl
  have v1 := cell_at (i := 1) hblk rfl
  have v2 := cell_at (i := 2) hblk rfl
  have hmf := hmfC
  clear hblk hg hok
  obtain ⟨ls, hls⟩ : ∃ ls, ls = lvs first right cs xs := ⟨_, rfl⟩
  have HLS := Lib.hid hls
  have HL4 := Lib.hid (show ls.length ≤ 400 by rw [hls]; exact lvs_len OK.out)
  rw [← hls]
  go_enter Tryz.func13, Tryz.ntmps13
  go_wp2_with fail
  refine (pagesOf_any first right av lv cv cs af lf cf xs _ (hv.keep RChap.ok hk0) (hf.keep RFin.ok hk0) hlv' hlf HRs.out.2 (chapsF_found OK.out.chap) OK.out.lo OK.out.hi).mono ?_
  rintro e w2 ⟨v, rfl, hacc, hw2⟩
  have hk2 : All w w2 := hk0.trans hw2
  obtain ⟨a, cap, rfl, hsl⟩ := hacc.sl RLeaf.ok (by decide) (G := fun _ => True) (fun _ h => h.elim) (fun _ _ => trivial)
  change Sl RLeaf 3 (fun _ => True) w2 a (lvs first right cs xs).length (lvs first right cs xs) at hsl
  rw [← HLS.out] at hsl
  obtain ⟨n, hn⟩ : ∃ n, n = ls.length := ⟨_, rfl⟩
  have HN := Lib.hid hn
  have hn4 : n ≤ 400 := by rw [hn]; exact HL4.out
  have hlen : (leavesF xs right first (allP cs)).length = n := by rw [hn, HLS.out]
  rw [hlen]
  rw [← hn] at hsl
  have HEND := Lib.hid (show ∀ wx, All w2 wx → All w wx from fun wx hw => hk2.trans hw)
  clear hacc hn hlen v0 v1 v2 hw2 hk0 hls
  go_wp2_with fail
  go_loopw [5, 15] (fun o i wr => ∃ k : Nat, k ≤ n ∧ i = .int .i64 k ∧ (∃ out, IdxM (ents xs (ls.take k)) wr w2.heap.size o out) ∧ All w2 wr) (fun _ i _ => n - (intOf i).toNat)
  case atStart => exact ⟨0, Nat.zero_le _, rfl, ⟨[], by rw [List.take_zero]; exact IdxM.nil _ _⟩, Kept.refl _ _⟩
  case round =>
    obtain ⟨k, hk, rfl, ⟨out, hidx⟩, hwr⟩ := hrel
    obtain ⟨wo, rfl⟩ : ∃ wo : World, wo = wr := ⟨_, rfl⟩
    obtain ⟨oa, oc, rfl, hoc⟩ := hidx.acc.form
    by_cases hlt : k < n
    · obtain ⟨b, o, l, ha, -, c0, c1, c2, hz, hx, -, -⟩ := (hsl.keep RLeaf.ok hwr).atLeaf hlt
      subst ha
      have HX := Lib.hid hx
      obtain ⟨f, hlf4⟩ := LeafOk.of OK.out (by rw [← HLS.out]; exact hx)
      have HF := Lib.hid hlf4
      clear hx hlf4
      have hwa : All w2 (wo.alloc (.cells #[.string l.paper, .int .i64 l.lo, .int .i64 l.hi] 42)) := hwr.then_alloc _
      have hxb := heap_at wo (.cells #[.string l.paper, .int .i64 l.lo, .int .i64 l.hi] 42) _ rfl
      have hidxa := hidx.keep (Kept.alloc (fun _ => True) wo (.cells #[.string l.paper, .int .i64 l.lo, .int .i64 l.hi] 42))
      obtain ⟨xb, hxbe⟩ : ∃ xb, xb = wo.heap.size := ⟨_, rfl⟩
      have HXB := Lib.hid hxbe
      rw [← hxbe] at hxb
      have x0 := cell_at (i := 0) hxb rfl
      clear hxbe hidx hwr
      go_wp2_with fail
      simp only [← HXB.out]
      generalize wo.alloc (.cells #[.string l.paper, .int .i64 l.lo, .int .i64 l.hi] 42) = wa at *
      refine (finalAt_any af lf cf xs l.paper _ (hf.keep RFin.ok (HEND.out _ hwa)) (by omega)).mono ?_
      rintro e w5 ⟨rfl, hw5⟩
      rw [HF.out.find]
      have hwb : All w2 w5 := hwa.trans hw5
      have hxb5 := hw5.heap hxb trivial
      have hidx5 := hidxa.keep hw5
      obtain ⟨ix, hix⟩ : ∃ i, i = cntOf xs l.paper := ⟨_, rfl⟩
      have HIX := Lib.hid (show xs[ix]? = some f by rw [hix]; exact HF.out.at')
      rw [← hix]
      have hixl : ix < lf := by
        have h1 := (List.getElem?_eq_some_iff.1 HIX.out).1
        have h2 := hf.len
        omega
      obtain ⟨bf, of, f', ac, cc, haf, -, -, -, -, ct, -, hcc, hcr, hf', -, -⟩ := hf.atFin hixl
      have hff : f' = f := by rw [HIX.out] at hf'; injection hf' with hf'; exact hf'.symm
      subst hff
      subst haf
      replace ct := (HEND.out _ hwb).cell ct trivial
      have g1 : (0 : Int) ≤ (ix : Int) := by omega
      have g2 : (ix : Int) < (lf : Int) := by omega
      obtain ⟨q, hq⟩ : ∃ q, q = f'.credits.length := ⟨_, rfl⟩
      have HQ := Lib.hid hq
      have hq20 : q ≤ 20 := by rw [hq]; exact HF.out.creds.len
      rw [← hq] at ct hcr hcc
      clear hf' hix x0 hxb hwa hidxa hw5 hq
      go_wp2_with fail
      clear ct g1 g2
      go_loopw [5, 28] (fun o i wr => ∃ j : Nat, j ≤ q ∧ i = .int .i64 j ∧ (∃ out, IdxM (ents xs (ls.take k) ++ entOf l.lo (f'.credits.take j)) wr w2.heap.size o out) ∧ All w2 wr ∧ wr.heap[xb]? = some (.cells #[.string l.paper, .int .i64 l.lo, .int .i64 l.hi] 42 (0, 0))) (fun _ i _ => q - (intOf i).toNat)
      case atStart => exact ⟨0, Nat.zero_le _, rfl, ⟨out, by rw [List.take_zero]; simpa [entOf] using hidx5⟩, hwb, hxb5⟩
      case round =>
        clear hidx5 hxb5 hwb hoc
        obtain ⟨j, hj, rfl, ⟨out2, hidx⟩, hwj, hxb⟩ := hrel
        obtain ⟨wi, rfl⟩ : ∃ wi : World, wi = wr := ⟨_, rfl⟩
        obtain ⟨oa2, oc2, rfl, hoc2⟩ := hidx.acc.form
        by_cases hjl : j < q
        · obtain ⟨bp, op, c, hap, -, ck, cn, hz1, hz2, hc, -, -⟩ := hcr.atCred hjl
          subst hap
          replace ck := (HEND.out _ hwj).cell ck trivial
          replace cn := (HEND.out _ hwj).cell cn trivial
          have HC := Lib.hid hc
          have HMEM := Lib.hid (List.mem_of_getElem? hc)
          have hnm : c.name.size ≤ 100 := lineB_small (HF.out.creds.names c HMEM.out).2
          have HOK := Lib.hid (cred_okK HF.out.creds HMEM.out)
          clear hc
          have hwc : All w2 (wi.alloc (.cells #[.string c.key, .string c.name] 61)) := hwj.then_alloc _
          have hcb := heap_at wi (.cells #[.string c.key, .string c.name] 61) _ rfl
          have hidxc := hidx.keep (Kept.alloc (fun _ => True) wi (.cells #[.string c.key, .string c.name] 61))
          have hxbc := (Kept.alloc (fun _ => True) wi (.cells #[.string c.key, .string c.name] 61)).heap hxb trivial
          obtain ⟨cb, hcbe⟩ : ∃ x, x = wi.heap.size := ⟨_, rfl⟩
          have HCB := Lib.hid hcbe
          rw [← hcbe] at hcb
          have HCC := Lib.hid (fun (wx : World) (kx : All (wi.alloc (.cells #[.string c.key, .string c.name] 61)) wx) => (⟨kx.cell (cell_at (i := 0) hcb rfl) trivial, kx.cell (cell_at (i := 1) hcb rfl) trivial⟩ : _ ∧ _))
          clear hcbe hcb hidx hxb
          go_upto_region 8 with fail
          simp only [← HCB.out]
          generalize wi.alloc (.cells #[.string c.key, .string c.name] 61) = wc at *
          clear ck cn
          have HGC := Lib.hid (fun (wx : World) (kx : All wc wx) => sortOf_any c.name wx hnm (HG.out.keep ((HEND.out _ hwc).trans kx)))
          obtain ⟨sn, hsn⟩ : ∃ s, s = sortB c.name := ⟨_, rfl⟩
          have HSN := Lib.hid hsn
          rw [← hsn] at HGC HOK
          have HPL := Lib.hid (show (pagesAt (ents xs (ls.take k) ++ entOf l.lo (f'.credits.take j)) (sn, c.key)).length ≤ 100000 from by
            have h1 := pagesAt_len (ents xs (ls.take k) ++ entOf l.lo (f'.credits.take j)) (sn, c.key)
            have h2 := ents_len OK.out.fin (ls.take k)
            rw [List.length_append] at h1
            have h3 : (entOf l.lo (f'.credits.take j)).length ≤ 20 := by unfold entOf; rw [List.length_map, List.length_take]; omega
            rw [List.length_take] at h2
            omega)
          have eg : ∀ args w, (callFunc 45 args).run Tryz.prog w = .ok (.enter 45 args) w := enters_of Tryz.func45 (by kernel_rfl) rfl
          have hans : AnswersL Tryz.prog 45 #[.pointer (some ⟨cb, 0, none⟩)] wc (isKey2 (sn, c.key)) := fun y wx hwx => by
            rw [hsn]
            exact idx1_any cb c y wx (HCC.out wx hwx).1 (HCC.out wx hwx).2 hnm (HG.out.keep ((HEND.out _ hwc).trans hwx))
          obtain ⟨oa3, oc3, hv3, hsl3⟩ := hidxc.acc.sl RLst.ok (by decide) (G := fun _ => True) (fun _ h => h.elim) (fun _ _ => trivial)
          have ho8 : out2.length ≤ 100000 := by
            have hmp : ∀ x ∈ out2, pagesAt _ (kOf x) ≠ [] := fun x hx => (hidxc.mem (kOf x)).1 ⟨x, hx, rfl⟩
            have h0 := keys_len hidxc.nd hmp
            have h2 := ents_len OK.out.fin (ls.take k)
            rw [List.length_append] at h0
            have h3 : (entOf l.lo (f'.credits.take j)).length ≤ 20 := by unfold entOf; rw [List.length_map, List.length_take]; omega
            rw [List.length_take] at h2
            omega
          injection hv3 with e1 e2 e3
          subst e1 e3
          clear e2
          have HIF := Lib.hid (indexLst_any 45 #[.pointer (some ⟨cb, 0, none⟩)] eg (isKey2 (sn, c.key)) oa2 out2.length oc2 out2 wc hsl3 (by omega) hans)
          clear hsn eg hans hsl3
          go_upto_region 9 with fail
          refine HIF.out.mono ?_
          rintro e wd ⟨rfl, hwd⟩
          have hwd2 := hwc.trans hwd
          have hidxd := hidxc.keep hwd
          have hxbd := hwd.heap hxbc trivial
          clear HIF hidxc hxbc
          rcases findG_find (p := isKey2 (sn, c.key)) (xs := out2) (k := 0) with ⟨hfn, hfe⟩ | ⟨i, x, hfs, hfe, hxi⟩
          · rw [hfe]
            have hno : ∀ x ∈ out2, kOf x ≠ (sn, c.key) := fun x hx e => by
              have h9 := List.find?_eq_none.1 hfn x hx
              simp [isKey2, e] at h9
            obtain ⟨on, hon⟩ : ∃ on, on = out2.length := ⟨_, rfl⟩
            have HON := Lib.hid hon
            rw [← hon]
            clear hon hfn hfe
            go_upto_region 11 with fail
            refine wp_region_inv 8 (by kernel_rfl) (by kernel_rfl) (by kernel_rfl) (fun _ wx => All wd wx)
              (DL [QIs ((Value.slice oa2 on oc2)), QIs (.pointer (some ⟨cb, 1, none⟩)), QIs (.string c.name), QIs (.string sn), QIs (.pointer (some ⟨cb, 0, none⟩)), QIs (.string c.key), QIs (.agg #[.string sn, .string c.key, .slice none 0 0]), QRow #[.string sn, .string c.key, .slice none 0 0] 48]) All
              (DL.keep (by simp only [List.forall_mem_cons, List.not_mem_nil, false_implies, implies_true, and_true]; exact ⟨QIs.stays _, QIs.stays _, QIs.stays _, QIs.stays _, QIs.stays _, QIs.stays _, QIs.stays _, QRow.stays _ _⟩)) ?_ ?_ ?_
            · exact Kept.drew _ _
            · intro i o t ho hd hi k' a' wx hk' hg hdf hts hoth hdeps
              have hszx := hg.size
              have hz : i = 0 ∨ i = 1 ∨ i = 2 ∨ i = 3 ∨ i = 4 ∨ i = 5 ∨ i = 6 ∨ i = 7 := by omega
              rcases hz with rfl | rfl | rfl | rfl | rfl | rfl | rfl | rfl
              · obtain rfl := Option.some.inj ho
                obtain rfl := Option.some.inj hd
                have e0 : a'.tmps.getD 5 undef = (Value.slice oa2 on oc2) := tmp_of ((hoth 5 (by decide)).trans rfl)
                clear hoth hdeps hdf hts ho
                refine wp_via (fun K' hK => ?_)
                have HK := Lib.hid hK
                clear hK
                go_simp
                exact HK.out _ _ ⟨_, rfl, hg, Kept.refl _ _, rfl⟩
              · obtain rfl := Option.some.inj ho
                obtain rfl := Option.some.inj hd
                have e0 : a'.tmps.getD 9 undef = .pointer (some ⟨cb, 0, none⟩) := tmp_of ((hoth 9 (by decide)).trans rfl)
                clear hoth hdeps hdf hts ho
                refine wp_via (fun K' hK => ?_)
                have HK := Lib.hid hK
                clear hK
                go_simp
                exact HK.out _ _ ⟨_, rfl, hg, Kept.refl _ _, rfl⟩
              · obtain rfl := Option.some.inj ho
                obtain rfl := Option.some.inj hd
                have e0 : a'.tmps.getD 40 undef = .pointer (some ⟨cb, 1, none⟩) := hdeps 1 (by decide) 40 rfl
                have c9 := (HCC.out _ (hwd.trans hg)).2
                clear hoth hdeps hdf hts ho
                refine wp_via (fun K' hK => ?_)
                have HK := Lib.hid hK
                clear hK
                go_simp
                exact HK.out _ _ ⟨_, rfl, hg, Kept.refl _ _, rfl⟩
              · obtain rfl := Option.some.inj ho
                obtain rfl := Option.some.inj hd
                have e0 : a'.tmps.getD 41 undef = .string c.name := hdeps 2 (by decide) 41 rfl
                clear hoth hdeps hdf hts ho
                refine wp_via (fun K' hK => ?_)
                have HK := Lib.hid hK
                clear hK
                go_simp
                refine (HGC.out wx (hwd.trans hg)).mono ?_
                rintro e w4' ⟨rfl, hw4'⟩
                exact HK.out _ _ ⟨_, rfl, hg.trans hw4', hw4', rfl⟩
              · obtain rfl := Option.some.inj ho
                obtain rfl := Option.some.inj hd
                have e0 : a'.tmps.getD 9 undef = .pointer (some ⟨cb, 0, none⟩) := tmp_of ((hoth 9 (by decide)).trans rfl)
                clear hoth hdeps hdf hts ho
                refine wp_via (fun K' hK => ?_)
                have HK := Lib.hid hK
                clear hK
                go_simp
                exact HK.out _ _ ⟨_, rfl, hg, Kept.refl _ _, rfl⟩
              · obtain rfl := Option.some.inj ho
                obtain rfl := Option.some.inj hd
                have e0 : a'.tmps.getD 43 undef = .pointer (some ⟨cb, 0, none⟩) := hdeps 4 (by decide) 43 rfl
                have c9 := (HCC.out _ (hwd.trans hg)).1
                clear hoth hdeps hdf hts ho
                refine wp_via (fun K' hK => ?_)
                have HK := Lib.hid hK
                clear hK
                go_simp
                exact HK.out _ _ ⟨_, rfl, hg, Kept.refl _ _, rfl⟩
              · obtain rfl := Option.some.inj ho
                obtain rfl := Option.some.inj hd
                have e0 : a'.tmps.getD 42 undef = .string sn := hdeps 3 (by decide) 42 rfl
                have e1 : a'.tmps.getD 44 undef = .string c.key := hdeps 5 (by decide) 44 rfl
                have e0' : a'.tmps[42]?.getD undef = .string sn := by rw [← Array.getD_eq_getD_getElem?]; exact e0
                have e1' : a'.tmps[44]?.getD undef = .string c.key := by rw [← Array.getD_eq_getD_getElem?]; exact e1
                clear hoth hdeps hdf hts ho
                refine wp_via (fun K' hK => ?_)
                have HK := Lib.hid hK
                clear hK
                go_simp
                exact HK.out _ _ ⟨_, rfl, hg, Kept.refl _ _, rfl⟩
              · obtain rfl := Option.some.inj ho
                obtain rfl := Option.some.inj hd
                have e0 : a'.tmps.getD 45 undef = .agg #[.string sn, .string c.key, .slice none 0 0] := hdeps 6 (by decide) 45 rfl
                have e0' : a'.tmps[45]?.getD undef = .agg #[.string sn, .string c.key, .slice none 0 0] := by rw [← Array.getD_eq_getD_getElem?]; exact e0
                clear hoth hdeps hdf hts ho
                refine wp_via (fun K' hK => ?_)
                have HK := Lib.hid hK
                clear hK
                go_simp
                exact HK.out _ _ ⟨_, rfl, hg.then_alloc _, Kept.alloc _ _ _, ⟨wx.heap.size, rfl, heap_at _ _ _ rfl⟩⟩
            · intro wx f9 hgx hd
              have e39 : f9 39 = Value.slice oa2 on oc2 := hd 0 39 (by decide) rfl
              obtain ⟨nb, e46, hnb⟩ : QRow #[.string sn, .string c.key, .slice none 0 0] 48 (f9 46) wx := hd 7 46 (by decide) rfl
              rw [show dsts _ 8 = [39, 40, 41, 42, 43, 44, 45, 46] from by kernel_rfl]
              simp only [List.map_cons, List.map_nil, puts, Act.put, e39, e46, List.drop_succ_cons, List.drop_zero]
              generalize f9 40 = f40
              generalize f9 41 = f41
              generalize f9 42 = f42
              generalize f9 43 = f43
              generalize f9 44 = f44
              generalize f9 45 = f45
              simp only [List.setIfInBounds_toArray, List.set_cons_zero, List.set_cons_succ]
              have hidxx := hidxd.keep hgx
              have hwx2 := hwd2.trans hgx
              have hxbx := hgx.heap hxbd trivial
              have hszx := hwx2.size
              have haccx := hidxx.acc
              rw [← HON.out] at haccx
              clear hd e39 e46 f9 hgx HCC HGC hidxd hxbd hwd2
              go_wp2_with (at_builtin; refine wp_append1 RLst.ok _ rfl _ _ 34 rfl w2.heap.size 48 (.agg #[.string ⟨#[]⟩, .string ⟨#[]⟩, .slice none 0 0]) 3 56 Tryz.underlying34 (by kernel_rfl) rfl (by decide) (fun _ => False) _ _ rfl haccx ⟨nb, 0, none⟩ 1 [.string sn, .string c.key, .slice none 0 0] rfl rfl (World.news_of_block hnb) (by simp [Value.oneCell']) (⟨sn, c.key, none, 0, 0, HOK.out.1, HOK.out.2⟩ : Lst3) ⟨rfl, trivial⟩ (by omega) (by decide) (by omega) ?_)
              intro p8 c8 w8 hac8 hg8 _
              have hir := hidxx.fresh hno (y := (⟨sn, c.key, none, 0, 0, HOK.out.1, HOK.out.2⟩ : Lst3)) rfl rfl hac8 (by rw [← HON.out]; exact hg8)
              have hwa9 : All w2 w8 := hwx2.trans2 (kept_of_grown hg8) (fun i hi _ e => by have := (haccx.lt i e).1; omega)
              have hxbw := (kept_of_grown hg8).heap hxbx (fun e => haccx.notType hxbx (by decide) _ e rfl)
              obtain ⟨g, cap9, cur9, hv9, -, -, -, -, -⟩ := hac8.flatRow (by simp)
              injection hv9 with e1 e2 e3
              subst e1 e3
              clear e2
              obtain ⟨x, hx9⟩ : ∃ x : Lst3, x = ⟨sn, c.key, none, 0, 0, HOK.out.1, HOK.out.2⟩ := ⟨_, rfl⟩
              rw [← hx9] at hir
              have HXX := Lib.hid (show (out2 ++ [x])[out2.length]? = some x by simp)
              have HKQ := Lib.hid (show kOf x = (sn, c.key) by rw [hx9])
              rw [← HON.out] at hir HXX ⊢
              have HIR := Lib.hid hir
              clear hir hac8 hg8 hidxx hxbx hx9 haccx
              obtain ⟨on1, hon1⟩ : ∃ m, m = on + 1 := ⟨_, rfl⟩
              obtain ⟨oc, hoc9⟩ : ∃ m, m = c8 := ⟨_, rfl⟩
              rw [← hon1, ← hoc9] at HIR ⊢
              clear hon1 hoc9
              go_upto_region 12 with fail
              obtain ⟨kk, hkk⟩ : ∃ m, m = on := ⟨_, rfl⟩
              rw [← hkk] at HIR HXX ⊢
              clear hkk HON
              obtain ⟨on', hon'⟩ : ∃ m, m = on1 := ⟨_, rfl⟩
              rw [← hon'] at HIR ⊢
              clear hon'
              have hrwlt : ∀ i, (rowV x).ownBlock = some i → i < w8.heap.size := fun i hi => ((HIR.out.row x (List.mem_of_getElem? HXX.out)).lt i hi).2
              obtain ⟨hkl, -⟩ := List.getElem?_eq_some_iff.1 HXX.out
              have hon : on' = (out2 ++ [x]).length := by obtain ⟨a9, c9, hv9, -⟩ := HIR.out.acc.form; cases hv9; rfl
              have HCK := Lib.hid (fun (wx : World) (kx : Kept (fun i => (rowV x).ownBlock ≠ some i) w8 wx) => (show wx.cell? ⟨g, kk * 3 + 2, none⟩ = some (.slice x.pa x.pl x.pc) ∧ wx.cell? ⟨xb, 1, none⟩ = some (.int .i64 l.lo) from by
                  have haW := HIR.out.acc.flatKeep flatLst kx (fun i hi e => HIR.out.apart x (List.mem_of_getElem? HXX.out) i e hi)
                  obtain ⟨g', cap', cur, hv, hB, hblk, -, -, -⟩ := haW.flatRow (by omega)
                  injection hv with e1 e2 e3
                  injection e1 with e1
                  injection e1 with e1 _ _
                  subst e1
                  subst e2
                  subst e3
                  obtain ⟨-, hc⟩ := haW.flatAt flatLst hblk HXX.out
                  exact ⟨cell_at hblk (hc 2 (rowV x) rfl), cell_at (i := 1) (kx.heap hxbw (fun e => (HIR.out.row x (List.mem_of_getElem? HXX.out)).notType hxbw (by decide) _ e rfl)) rfl⟩))
              have HAX := Lib.hid (fun (wx : World) (kx : All w8 wx) => (show Acc RInt 1 3 (fun _ => False) w2.heap.size wx (rowV x) (pagesAt (ents xs (ls.take k) ++ entOf l.lo (f'.credits.take j)) (sn, c.key)) from by have h9 := (HIR.out.row x (List.mem_of_getElem? HXX.out)).keepAll RInt.ok kx; rw [HKQ.out] at h9; exact h9))
              have hwsz : w2.heap.size ≤ w8.heap.size := by have := hwa9.size; omega
              have gk1 : (0 : Int) ≤ ((kk : Nat) : Int) := by omega
              have gk2 : ((kk : Nat) : Int) < ((on' : Nat) : Int) := by omega
              clear hkl hon
              refine wp_region_invL 13 (by kernel_rfl) (by kernel_rfl) (by kernel_rfl) (GrG w8 (rowV x))
                (DL [QIs ((Value.slice (some ⟨g, 0, none⟩) on' oc)), QIs ((Value.int .i64 ((kk : Nat) : Int))), QIs ((Value.slice (some ⟨g, 0, none⟩) on' oc)), QIs ((Value.int .i64 ((kk : Nat) : Int))), QIs (Value.pointer (some ⟨g, kk * 3, none⟩)), QIs (Value.pointer (some ⟨g, kk * 3 + 2, none⟩)), QIs (Value.slice x.pa x.pl x.pc), QIs (Value.pointer (some ⟨xb, 1, none⟩)), QIs (Value.int .i64 l.lo), DOne w8.heap.size l.lo, DApI w8 w2.heap.size (pagesAt (ents xs (ls.take k) ++ entOf l.lo (f'.credits.take j)) (sn, c.key)) (rowV x) l.lo, QIs (Value.pointer (some ⟨g, kk * 3, none⟩)), QIs (Value.pointer (some ⟨g, kk * 3 + 2, none⟩))]) (GrM (rowV x)) ?_ ?_ ?_ ?_
              · intro i j' v w' w'' hi hj' hij hmm hd
                have hz : i = 0 ∨ i = 1 ∨ i = 2 ∨ i = 3 ∨ i = 4 ∨ i = 5 ∨ i = 6 ∨ i = 7 ∨ i = 8 ∨ i = 9 ∨ i = 10 ∨ i = 11 ∨ i = 12 := by omega
                rcases hz with rfl | rfl | rfl | rfl | rfl | rfl | rfl | rfl | rfl | rfl | rfl | rfl | rfl
                · exact hd
                · exact hd
                · exact hd
                · exact hd
                · exact hd
                · exact hd
                · exact hd
                · exact hd
                · exact hd
                · exact DOne.keep hd hrwlt hmm
                · exact DApI.keep hd (by rw [GrM, if_neg (show ¬ j' = 10 by omega)] at hmm; exact hmm)
                · exact hd
                · exact hd
              · exact ⟨Kept.drew _ _, fun _ => Kept.drew _ _⟩
              · intro i o t ho hd hi L a' wx hg hL hdf hts hoth hdeps
                have hz : i = 0 ∨ i = 1 ∨ i = 2 ∨ i = 3 ∨ i = 4 ∨ i = 5 ∨ i = 6 ∨ i = 7 ∨ i = 8 ∨ i = 9 ∨ i = 10 ∨ i = 11 ∨ i = 12 := by omega
                rcases hz with rfl | rfl | rfl | rfl | rfl | rfl | rfl | rfl | rfl | rfl | rfl | rfl | rfl
                · obtain rfl := Option.some.inj ho
                  obtain rfl := Option.some.inj hd
                  have e0 : a'.tmps.getD 5 undef = (Value.slice (some ⟨g, 0, none⟩) on' oc) := tmp_of ((hoth 5 (by decide)).trans rfl)
                  clear hoth hdeps hdf hts ho
                  refine wp_via (fun K' hK => ?_)
                  have HK := Lib.hid hK
                  clear hK
                  go_simp
                  exact HK.out _ _ ⟨_, rfl, grG_same hg (by decide), Kept.refl _ _, rfl⟩
                · obtain rfl := Option.some.inj ho
                  obtain rfl := Option.some.inj hd
                  have e0 : a'.tmps.getD 10 undef = (Value.int .i64 ((kk : Nat) : Int)) := tmp_of ((hoth 10 (by decide)).trans rfl)
                  clear hoth hdeps hdf hts ho
                  refine wp_via (fun K' hK => ?_)
                  have HK := Lib.hid hK
                  clear hK
                  go_simp
                  exact HK.out _ _ ⟨_, rfl, grG_same hg (by decide), Kept.refl _ _, rfl⟩
                · obtain rfl := Option.some.inj ho
                  obtain rfl := Option.some.inj hd
                  have e0 : a'.tmps.getD 5 undef = (Value.slice (some ⟨g, 0, none⟩) on' oc) := tmp_of ((hoth 5 (by decide)).trans rfl)
                  clear hoth hdeps hdf hts ho
                  refine wp_via (fun K' hK => ?_)
                  have HK := Lib.hid hK
                  clear hK
                  go_simp
                  exact HK.out _ _ ⟨_, rfl, grG_same hg (by decide), Kept.refl _ _, rfl⟩
                · obtain rfl := Option.some.inj ho
                  obtain rfl := Option.some.inj hd
                  have e0 : a'.tmps.getD 10 undef = (Value.int .i64 ((kk : Nat) : Int)) := tmp_of ((hoth 10 (by decide)).trans rfl)
                  clear hoth hdeps hdf hts ho
                  refine wp_via (fun K' hK => ?_)
                  have HK := Lib.hid hK
                  clear hK
                  go_simp
                  exact HK.out _ _ ⟨_, rfl, grG_same hg (by decide), Kept.refl _ _, rfl⟩
                · obtain rfl := Option.some.inj ho
                  obtain rfl := Option.some.inj hd
                  have e0 : a'.tmps.getD 50 undef = (Value.slice (some ⟨g, 0, none⟩) on' oc) := hdeps 2 (by decide) 50 rfl
                  have e1 : a'.tmps.getD 51 undef = (Value.int .i64 ((kk : Nat) : Int)) := hdeps 3 (by decide) 51 rfl
                  clear hoth hdeps hdf hts ho
                  refine wp_via (fun K' hK => ?_)
                  have HK := Lib.hid hK
                  clear hK
                  go_simp
                  exact HK.out _ _ ⟨_, rfl, grG_same hg (by decide), Kept.refl _ _, rfl⟩
                · obtain rfl := Option.some.inj ho
                  obtain rfl := Option.some.inj hd
                  have e0 : a'.tmps.getD 52 undef = Value.pointer (some ⟨g, kk * 3, none⟩) := hdeps 4 (by decide) 52 rfl
                  clear hoth hdeps hdf hts ho
                  refine wp_via (fun K' hK => ?_)
                  have HK := Lib.hid hK
                  clear hK
                  go_simp
                  exact HK.out _ _ ⟨_, rfl, grG_same hg (by decide), Kept.refl _ _, rfl⟩
                · obtain rfl := Option.some.inj ho
                  obtain rfl := Option.some.inj hd
                  have e0 : a'.tmps.getD 53 undef = Value.pointer (some ⟨g, kk * 3 + 2, none⟩) := hdeps 5 (by decide) 53 rfl
                  have g9 := (HCK.out wx hg.1).1
                  clear hoth hdeps hdf hts ho
                  refine wp_via (fun K' hK => ?_)
                  have HK := Lib.hid hK
                  clear hK
                  go_simp
                  exact HK.out _ _ ⟨_, rfl, grG_same hg (by decide), Kept.refl _ _, rfl⟩
                · obtain rfl := Option.some.inj ho
                  obtain rfl := Option.some.inj hd
                  have e0 : a'.tmps.getD 7 undef = Value.pointer (some ⟨xb, 0, none⟩) := tmp_of ((hoth 7 (by decide)).trans rfl)
                  clear hoth hdeps hdf hts ho
                  refine wp_via (fun K' hK => ?_)
                  have HK := Lib.hid hK
                  clear hK
                  go_simp
                  exact HK.out _ _ ⟨_, rfl, grG_same hg (by decide), Kept.refl _ _, rfl⟩
                · obtain rfl := Option.some.inj ho
                  obtain rfl := Option.some.inj hd
                  have e0 : a'.tmps.getD 55 undef = Value.pointer (some ⟨xb, 1, none⟩) := hdeps 7 (by decide) 55 rfl
                  have g9 := (HCK.out wx hg.1).2
                  clear hoth hdeps hdf hts ho
                  refine wp_via (fun K' hK => ?_)
                  have HK := Lib.hid hK
                  clear hK
                  go_simp
                  exact HK.out _ _ ⟨_, rfl, grG_same hg (by decide), Kept.refl _ _, rfl⟩
                · obtain rfl := Option.some.inj ho
                  obtain rfl := Option.some.inj hd
                  have e0 : a'.tmps.getD 56 undef = Value.int .i64 l.lo := hdeps 8 (by decide) 56 rfl
                  have e0' : a'.tmps[56]?.getD undef = Value.int .i64 l.lo := by rw [← Array.getD_eq_getD_getElem?]; exact e0
                  have hszx := hg.1.size
                  clear hoth hdeps hdf hts ho
                  refine wp_via (fun K' hK => ?_)
                  have HK := Lib.hid hK
                  clear hK
                  go_simp
                  exact HK.out _ _ ⟨_, rfl, grG_alloc hg (by decide) _, Kept.alloc _ _ _, ⟨wx.heap.size, rfl, hszx, heap_at _ _ _ rfl⟩⟩
                · obtain rfl := Option.some.inj ho
                  obtain rfl := Option.some.inj hd
                  have e54 : a'.tmps.getD 54 undef = Value.slice x.pa x.pl x.pc := hdeps 6 (by decide) 54 rfl
                  obtain ⟨nb, e57, hnb1, hnb⟩ : DOne w8.heap.size l.lo (a'.tmps.getD 57 undef) wx := hdeps 9 (by decide) 57 rfl
                  have hallx : All w8 wx := hg.2 hL
                  have hszx := hallx.size
                  have haccx := HAX.out wx hallx
                  clear hoth hdeps hdf hts ho
                  refine wp_via (fun K' hK => ?_)
                  have HK := Lib.hid hK
                  clear hK
                  refine op_append1 RInt.ok wx _ _ _ rfl w2.heap.size 3 (.int .i64 0) 1 8 Tryz.underlying22 (by kernel_rfl) rfl (by decide) (fun _ => False) _ (pagesAt (ents xs (ls.take k) ++ entOf l.lo (f'.credits.take j)) (sn, c.key)) e54 haccx ⟨nb, 0, none⟩ 1 [.int .i64 l.lo] e57 rfl (World.news_of_block hnb) (by simp [Value.oneCell']) l.lo rfl (by have := HPL.out; omega) (by decide) (by omega) ?_
                  intro p7 c7 w7 hacc7 hgrow hat7
                  exact HK.out _ _ ⟨_, rfl, ⟨hg.1.grown hgrow (fun k hk => Or.inr (fun h => h hk)), fun h => absurd h (by simp)⟩, (Kept.refl _ _).grown hgrow (fun k hk => Or.inr (fun h => h hk)), ⟨wx, w7, p7, c7, rfl, hallx, hacc7, hgrow, hat7, Kept.refl _ _⟩⟩
                · obtain rfl := Option.some.inj ho
                  obtain rfl := Option.some.inj hd
                  have e0 : a'.tmps.getD 48 undef = (Value.slice (some ⟨g, 0, none⟩) on' oc) := hdeps 0 (by decide) 48 rfl
                  have e1 : a'.tmps.getD 49 undef = (Value.int .i64 ((kk : Nat) : Int)) := hdeps 1 (by decide) 49 rfl
                  clear hoth hdeps hdf hts ho
                  refine wp_via (fun K' hK => ?_)
                  have HK := Lib.hid hK
                  clear hK
                  go_simp
                  exact HK.out _ _ ⟨_, rfl, grG_same hg (by decide), Kept.refl _ _, rfl⟩
                · obtain rfl := Option.some.inj ho
                  obtain rfl := Option.some.inj hd
                  have e0 : a'.tmps.getD 59 undef = Value.pointer (some ⟨g, kk * 3, none⟩) := hdeps 11 (by decide) 59 rfl
                  clear hoth hdeps hdf hts ho
                  refine wp_via (fun K' hK => ?_)
                  have HK := Lib.hid hK
                  clear hK
                  go_simp
                  exact HK.out _ _ ⟨_, rfl, grG_same hg (by decide), Kept.refl _ _, rfl⟩
              · intro L wx f9 hg hd
                have e60 : f9 60 = Value.pointer (some ⟨g, kk * 3 + 2, none⟩) := hd 12 60 (by decide) rfl
                have hda : DApI w8 w2.heap.size (pagesAt (ents xs (ls.take k) ++ entOf l.lo (f'.credits.take j)) (sn, c.key)) (rowV x) l.lo (f9 58) wx := hd 10 58 (by decide) rfl
                obtain ⟨p7, n7, c7, e58, g1, g2, g3, hM9, hA9, hT9⟩ := IdxR.late HIR.out HXX.out HKQ.out hda
                have hA10 := hA9 w2 hwa9 (Nat.le_refl _)
                have hx10 := hT9 xb _ _ hxbw (by decide) (by decide)
                have HM9 := Lib.hid hM9
                rw [show dsts _ 13 = [48, 49, 50, 51, 52, 53, 54, 55, 56, 57, 58, 59, 60] from by kernel_rfl]
                simp only [List.map_cons, List.map_nil, puts, Act.put, e60, e58, List.drop_succ_cons, List.drop_zero]
                generalize f9 48 = f48
                generalize f9 49 = f49
                generalize f9 50 = f50
                generalize f9 51 = f51
                generalize f9 52 = f52
                generalize f9 53 = f53
                generalize f9 54 = f54
                generalize f9 55 = f55
                generalize f9 56 = f56
                generalize f9 57 = f57
                generalize f9 59 = f59
                simp only [List.setIfInBounds_toArray, List.set_cons_zero, List.set_cons_succ]
                clear hd e60 e58 f9 hg hda hM9 hA9 hT9 HCK HAX
                go_wp2_with fail
                go_roundw
                case rel => exact ⟨j + 1, by omega, by go_num, ⟨_, by rw [entOf_succ HC.out, ← List.append_assoc, ← HSN.out]; exact HM9.out⟩, hA10, hx10⟩
                case measure => simp [intOf]; omega
          · rw [hfe]
            have hkx : kOf x = (sn, c.key) := by have h9 := List.find?_some hfs; simpa [isKey2] using h9
            have hir := hidxd.found hxi hkx
            have hzi : ((0 + i : Nat) : Int) = (i : Int) := by omega
            rw [hzi]
            have hil : i < out2.length := (List.getElem?_eq_some_iff.1 hxi).1
            obtain ⟨g, cap9, cur9, hv9, -, -, -, -, -⟩ := hidxd.acc.flatRow (by omega)
            injection hv9 with e1 e2 e3
            subst e1
            have HXX := Lib.hid hxi
            have HKQ := Lib.hid hkx
            obtain ⟨on, hon⟩ : ∃ on, on = out2.length := ⟨_, rfl⟩
            rw [← hon] at hir ⊢
            obtain ⟨oc, hoc9⟩ : ∃ m, m = oc2 := ⟨_, rfl⟩
            rw [← hoc9] at hir ⊢
            have HIR := Lib.hid hir
            have hwa9 := hwd2
            have hxbw := hxbd
            clear hir hidxd hxi hkx hfe hfs e2 e3 hon hoc9 hxbd hwd2 hzi hil HCC HGC
            have dlt : decide ((i : Int) < 0) = false := by simp
            go_upto_region 12 with fail
            have hrwlt : ∀ i, (rowV x).ownBlock = some i → i < wd.heap.size := fun i hi => ((HIR.out.row x (List.mem_of_getElem? HXX.out)).lt i hi).2
            obtain ⟨hkl, -⟩ := List.getElem?_eq_some_iff.1 HXX.out
            have hon : on = out2.length := by obtain ⟨a9, c9, hv9, -⟩ := HIR.out.acc.form; cases hv9; rfl
            have HCK := Lib.hid (fun (wx : World) (kx : Kept (fun i => (rowV x).ownBlock ≠ some i) wd wx) => (show wx.cell? ⟨g, i * 3 + 2, none⟩ = some (.slice x.pa x.pl x.pc) ∧ wx.cell? ⟨xb, 1, none⟩ = some (.int .i64 l.lo) from by
                have haW := HIR.out.acc.flatKeep flatLst kx (fun i hi e => HIR.out.apart x (List.mem_of_getElem? HXX.out) i e hi)
                obtain ⟨g', cap', cur, hv, hB, hblk, -, -, -⟩ := haW.flatRow (by omega)
                injection hv with e1 e2 e3
                injection e1 with e1
                injection e1 with e1 _ _
                subst e1
                subst e2
                subst e3
                obtain ⟨-, hc⟩ := haW.flatAt flatLst hblk HXX.out
                exact ⟨cell_at hblk (hc 2 (rowV x) rfl), cell_at (i := 1) (kx.heap hxbw (fun e => (HIR.out.row x (List.mem_of_getElem? HXX.out)).notType hxbw (by decide) _ e rfl)) rfl⟩))
            have HAX := Lib.hid (fun (wx : World) (kx : All wd wx) => (show Acc RInt 1 3 (fun _ => False) w2.heap.size wx (rowV x) (pagesAt (ents xs (ls.take k) ++ entOf l.lo (f'.credits.take j)) (sn, c.key)) from by have h9 := (HIR.out.row x (List.mem_of_getElem? HXX.out)).keepAll RInt.ok kx; rw [HKQ.out] at h9; exact h9))
            have hwsz : w2.heap.size ≤ wd.heap.size := by have := hwa9.size; omega
            have gk1 : (0 : Int) ≤ ((i : Nat) : Int) := by omega
            have gk2 : ((i : Nat) : Int) < ((on : Nat) : Int) := by omega
            clear hkl hon
            refine wp_region_invL 13 (by kernel_rfl) (by kernel_rfl) (by kernel_rfl) (GrG wd (rowV x))
              (DL [QIs ((Value.slice (some ⟨g, 0, none⟩) on oc)), QIs ((Value.int .i64 ((i : Nat) : Int))), QIs ((Value.slice (some ⟨g, 0, none⟩) on oc)), QIs ((Value.int .i64 ((i : Nat) : Int))), QIs (Value.pointer (some ⟨g, i * 3, none⟩)), QIs (Value.pointer (some ⟨g, i * 3 + 2, none⟩)), QIs (Value.slice x.pa x.pl x.pc), QIs (Value.pointer (some ⟨xb, 1, none⟩)), QIs (Value.int .i64 l.lo), DOne wd.heap.size l.lo, DApI wd w2.heap.size (pagesAt (ents xs (ls.take k) ++ entOf l.lo (f'.credits.take j)) (sn, c.key)) (rowV x) l.lo, QIs (Value.pointer (some ⟨g, i * 3, none⟩)), QIs (Value.pointer (some ⟨g, i * 3 + 2, none⟩))]) (GrM (rowV x)) ?_ ?_ ?_ ?_
            · intro i j' v w' w'' hi hj' hij hmm hd
              have hz : i = 0 ∨ i = 1 ∨ i = 2 ∨ i = 3 ∨ i = 4 ∨ i = 5 ∨ i = 6 ∨ i = 7 ∨ i = 8 ∨ i = 9 ∨ i = 10 ∨ i = 11 ∨ i = 12 := by omega
              rcases hz with rfl | rfl | rfl | rfl | rfl | rfl | rfl | rfl | rfl | rfl | rfl | rfl | rfl
              · exact hd
              · exact hd
              · exact hd
              · exact hd
              · exact hd
              · exact hd
              · exact hd
              · exact hd
              · exact hd
              · exact DOne.keep hd hrwlt hmm
              · exact DApI.keep hd (by rw [GrM, if_neg (show ¬ j' = 10 by omega)] at hmm; exact hmm)
              · exact hd
              · exact hd
            · exact ⟨Kept.drew _ _, fun _ => Kept.drew _ _⟩
            · intro i o t ho hd hi L a' wx hg hL hdf hts hoth hdeps
              have hz : i = 0 ∨ i = 1 ∨ i = 2 ∨ i = 3 ∨ i = 4 ∨ i = 5 ∨ i = 6 ∨ i = 7 ∨ i = 8 ∨ i = 9 ∨ i = 10 ∨ i = 11 ∨ i = 12 := by omega
              rcases hz with rfl | rfl | rfl | rfl | rfl | rfl | rfl | rfl | rfl | rfl | rfl | rfl | rfl
              · obtain rfl := Option.some.inj ho
                obtain rfl := Option.some.inj hd
                have e0 : a'.tmps.getD 5 undef = (Value.slice (some ⟨g, 0, none⟩) on oc) := tmp_of ((hoth 5 (by decide)).trans rfl)
                clear hoth hdeps hdf hts ho
                refine wp_via (fun K' hK => ?_)
                have HK := Lib.hid hK
                clear hK
                go_simp
                exact HK.out _ _ ⟨_, rfl, grG_same hg (by decide), Kept.refl _ _, rfl⟩
              · obtain rfl := Option.some.inj ho
                obtain rfl := Option.some.inj hd
                have e0 : a'.tmps.getD 10 undef = (Value.int .i64 ((i : Nat) : Int)) := tmp_of ((hoth 10 (by decide)).trans rfl)
                clear hoth hdeps hdf hts ho
                refine wp_via (fun K' hK => ?_)
                have HK := Lib.hid hK
                clear hK
                go_simp
                exact HK.out _ _ ⟨_, rfl, grG_same hg (by decide), Kept.refl _ _, rfl⟩
              · obtain rfl := Option.some.inj ho
                obtain rfl := Option.some.inj hd
                have e0 : a'.tmps.getD 5 undef = (Value.slice (some ⟨g, 0, none⟩) on oc) := tmp_of ((hoth 5 (by decide)).trans rfl)
                clear hoth hdeps hdf hts ho
                refine wp_via (fun K' hK => ?_)
                have HK := Lib.hid hK
                clear hK
                go_simp
                exact HK.out _ _ ⟨_, rfl, grG_same hg (by decide), Kept.refl _ _, rfl⟩
              · obtain rfl := Option.some.inj ho
                obtain rfl := Option.some.inj hd
                have e0 : a'.tmps.getD 10 undef = (Value.int .i64 ((i : Nat) : Int)) := tmp_of ((hoth 10 (by decide)).trans rfl)
                clear hoth hdeps hdf hts ho
                refine wp_via (fun K' hK => ?_)
                have HK := Lib.hid hK
                clear hK
                go_simp
                exact HK.out _ _ ⟨_, rfl, grG_same hg (by decide), Kept.refl _ _, rfl⟩
              · obtain rfl := Option.some.inj ho
                obtain rfl := Option.some.inj hd
                have e0 : a'.tmps.getD 50 undef = (Value.slice (some ⟨g, 0, none⟩) on oc) := hdeps 2 (by decide) 50 rfl
                have e1 : a'.tmps.getD 51 undef = (Value.int .i64 ((i : Nat) : Int)) := hdeps 3 (by decide) 51 rfl
                clear hoth hdeps hdf hts ho
                refine wp_via (fun K' hK => ?_)
                have HK := Lib.hid hK
                clear hK
                go_simp
                exact HK.out _ _ ⟨_, rfl, grG_same hg (by decide), Kept.refl _ _, rfl⟩
              · obtain rfl := Option.some.inj ho
                obtain rfl := Option.some.inj hd
                have e0 : a'.tmps.getD 52 undef = Value.pointer (some ⟨g, i * 3, none⟩) := hdeps 4 (by decide) 52 rfl
                clear hoth hdeps hdf hts ho
                refine wp_via (fun K' hK => ?_)
                have HK := Lib.hid hK
                clear hK
                go_simp
                exact HK.out _ _ ⟨_, rfl, grG_same hg (by decide), Kept.refl _ _, rfl⟩
              · obtain rfl := Option.some.inj ho
                obtain rfl := Option.some.inj hd
                have e0 : a'.tmps.getD 53 undef = Value.pointer (some ⟨g, i * 3 + 2, none⟩) := hdeps 5 (by decide) 53 rfl
                have g9 := (HCK.out wx hg.1).1
                clear hoth hdeps hdf hts ho
                refine wp_via (fun K' hK => ?_)
                have HK := Lib.hid hK
                clear hK
                go_simp
                exact HK.out _ _ ⟨_, rfl, grG_same hg (by decide), Kept.refl _ _, rfl⟩
              · obtain rfl := Option.some.inj ho
                obtain rfl := Option.some.inj hd
                have e0 : a'.tmps.getD 7 undef = Value.pointer (some ⟨xb, 0, none⟩) := tmp_of ((hoth 7 (by decide)).trans rfl)
                clear hoth hdeps hdf hts ho
                refine wp_via (fun K' hK => ?_)
                have HK := Lib.hid hK
                clear hK
                go_simp
                exact HK.out _ _ ⟨_, rfl, grG_same hg (by decide), Kept.refl _ _, rfl⟩
              · obtain rfl := Option.some.inj ho
                obtain rfl := Option.some.inj hd
                have e0 : a'.tmps.getD 55 undef = Value.pointer (some ⟨xb, 1, none⟩) := hdeps 7 (by decide) 55 rfl
                have g9 := (HCK.out wx hg.1).2
                clear hoth hdeps hdf hts ho
                refine wp_via (fun K' hK => ?_)
                have HK := Lib.hid hK
                clear hK
                go_simp
                exact HK.out _ _ ⟨_, rfl, grG_same hg (by decide), Kept.refl _ _, rfl⟩
              · obtain rfl := Option.some.inj ho
                obtain rfl := Option.some.inj hd
                have e0 : a'.tmps.getD 56 undef = Value.int .i64 l.lo := hdeps 8 (by decide) 56 rfl
                have e0' : a'.tmps[56]?.getD undef = Value.int .i64 l.lo := by rw [← Array.getD_eq_getD_getElem?]; exact e0
                have hszx := hg.1.size
                clear hoth hdeps hdf hts ho
                refine wp_via (fun K' hK => ?_)
                have HK := Lib.hid hK
                clear hK
                go_simp
                exact HK.out _ _ ⟨_, rfl, grG_alloc hg (by decide) _, Kept.alloc _ _ _, ⟨wx.heap.size, rfl, hszx, heap_at _ _ _ rfl⟩⟩
              · obtain rfl := Option.some.inj ho
                obtain rfl := Option.some.inj hd
                have e54 : a'.tmps.getD 54 undef = Value.slice x.pa x.pl x.pc := hdeps 6 (by decide) 54 rfl
                obtain ⟨nb, e57, hnb1, hnb⟩ : DOne wd.heap.size l.lo (a'.tmps.getD 57 undef) wx := hdeps 9 (by decide) 57 rfl
                have hallx : All wd wx := hg.2 hL
                have hszx := hallx.size
                have haccx := HAX.out wx hallx
                clear hoth hdeps hdf hts ho
                refine wp_via (fun K' hK => ?_)
                have HK := Lib.hid hK
                clear hK
                refine op_append1 RInt.ok wx _ _ _ rfl w2.heap.size 3 (.int .i64 0) 1 8 Tryz.underlying22 (by kernel_rfl) rfl (by decide) (fun _ => False) _ (pagesAt (ents xs (ls.take k) ++ entOf l.lo (f'.credits.take j)) (sn, c.key)) e54 haccx ⟨nb, 0, none⟩ 1 [.int .i64 l.lo] e57 rfl (World.news_of_block hnb) (by simp [Value.oneCell']) l.lo rfl (by have := HPL.out; omega) (by decide) (by omega) ?_
                intro p7 c7 w7 hacc7 hgrow hat7
                exact HK.out _ _ ⟨_, rfl, ⟨hg.1.grown hgrow (fun k hk => Or.inr (fun h => h hk)), fun h => absurd h (by simp)⟩, (Kept.refl _ _).grown hgrow (fun k hk => Or.inr (fun h => h hk)), ⟨wx, w7, p7, c7, rfl, hallx, hacc7, hgrow, hat7, Kept.refl _ _⟩⟩
              · obtain rfl := Option.some.inj ho
                obtain rfl := Option.some.inj hd
                have e0 : a'.tmps.getD 48 undef = (Value.slice (some ⟨g, 0, none⟩) on oc) := hdeps 0 (by decide) 48 rfl
                have e1 : a'.tmps.getD 49 undef = (Value.int .i64 ((i : Nat) : Int)) := hdeps 1 (by decide) 49 rfl
                clear hoth hdeps hdf hts ho
                refine wp_via (fun K' hK => ?_)
                have HK := Lib.hid hK
                clear hK
                go_simp
                exact HK.out _ _ ⟨_, rfl, grG_same hg (by decide), Kept.refl _ _, rfl⟩
              · obtain rfl := Option.some.inj ho
                obtain rfl := Option.some.inj hd
                have e0 : a'.tmps.getD 59 undef = Value.pointer (some ⟨g, i * 3, none⟩) := hdeps 11 (by decide) 59 rfl
                clear hoth hdeps hdf hts ho
                refine wp_via (fun K' hK => ?_)
                have HK := Lib.hid hK
                clear hK
                go_simp
                exact HK.out _ _ ⟨_, rfl, grG_same hg (by decide), Kept.refl _ _, rfl⟩
            · intro L wx f9 hg hd
              have e60 : f9 60 = Value.pointer (some ⟨g, i * 3 + 2, none⟩) := hd 12 60 (by decide) rfl
              have hda : DApI wd w2.heap.size (pagesAt (ents xs (ls.take k) ++ entOf l.lo (f'.credits.take j)) (sn, c.key)) (rowV x) l.lo (f9 58) wx := hd 10 58 (by decide) rfl
              obtain ⟨p7, n7, c7, e58, g1, g2, g3, hM9, hA9, hT9⟩ := IdxR.late HIR.out HXX.out HKQ.out hda
              have hA10 := hA9 w2 hwa9 (Nat.le_refl _)
              have hx10 := hT9 xb _ _ hxbw (by decide) (by decide)
              have HM9 := Lib.hid hM9
              rw [show dsts _ 13 = [48, 49, 50, 51, 52, 53, 54, 55, 56, 57, 58, 59, 60] from by kernel_rfl]
              simp only [List.map_cons, List.map_nil, puts, Act.put, e60, e58, List.drop_succ_cons, List.drop_zero]
              generalize f9 48 = f48
              generalize f9 49 = f49
              generalize f9 50 = f50
              generalize f9 51 = f51
              generalize f9 52 = f52
              generalize f9 53 = f53
              generalize f9 54 = f54
              generalize f9 55 = f55
              generalize f9 56 = f56
              generalize f9 57 = f57
              generalize f9 59 = f59
              simp only [List.setIfInBounds_toArray, List.set_cons_zero, List.set_cons_succ]
              clear hd e60 e58 f9 hg hda hM9 hA9 hT9 HCK HAX
              go_wp2_with fail
              go_roundw
              case rel => exact ⟨j + 1, by omega, by go_num, ⟨_, by rw [entOf_succ HC.out, ← List.append_assoc, ← HSN.out]; exact HM9.out⟩, hA10, hx10⟩
              case measure => simp [intOf]; omega
        · have hdj : decide ((j : Int) < (q : Int)) = false := by simp; omega
          go_wp2_with fail
          go_roundw
          case rel => exact ⟨k + 1, by omega, by go_num, ⟨out2, by rw [ents_succ HX.out, HF.out.cr]; rw [List.take_of_length_le (l := f'.credits) (by have := HQ.out; omega)] at hidx; exact hidx⟩, hwj⟩
          case measure => simp [intOf]; omega
    · have hd : decide ((k : Int) < (n : Int)) = false := by simp; omega
      rw [List.take_of_length_le (by have := HN.out; omega)] at hidx
      have hmp : ∀ x ∈ out, pagesAt _ (kOf x) ≠ [] := fun x hx => (hidx.mem (kOf x)).1 ⟨x, hx, rfl⟩
      have ho8 : out.length ≤ 8000 := by
        have h0 := keys_len hidx.nd hmp
        have h1 := ents_len OK.out.fin ls
        have h2 := HL4.out
        omega
      have eg : ∀ args w, (callFunc 47 args).run Tryz.prog w = .ok (.enter 47 args) w := enters_of Tryz.func47 (by kernel_rfl) rfl
      have HEG := Lib.hid eg
      have IDX := Lib.hid hidx
      have hlow : ∀ i, (Value.slice oa out.length oc).ownBlock = some i → w2.heap.size ≤ i := fun i hi => (hidx.acc.lt i hi).1
      clear eg hmp hidx
      go_wp2_with fail
      refine (sortLst_any cfL isCmpL 47 HEG.out _ out _ IDX.out.acc (by omega) cmpR_any).mono ?_
      rintro e w7 ⟨rfl, qs, hp, hs, ha, hg7⟩
      obtain ⟨pp, pc, hpv, hout⟩ := IDX.out.done hp hs ha hg7
      injection hpv with e1 e2 e3
      subst e1 e3
      have HE2 := Lib.hid e2
      have hall7 : All w w7 := HEND.out _ (hwr.trans2 (kept_of_grown hg7) (fun i hi _ e => by have := hlow i e; omega))
      have HOUT := Lib.hid hout
      clear hp hs ha hg7 hout hlow e2
      go_wp2_with fail
      go_ret
      exact ⟨oa, oc, qs, by rw [← HE2.out]; rfl, HOUT.out, hall7⟩
end Go.Proofs.YtbpbhpmkganefaaGreatDoor
