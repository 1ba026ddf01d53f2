/- The generator Reviews. -/
import Derived.Test.YtjbaijgdkkccbaaGreatDoorAy
import Derived.Test.YtjbaijgdkkccbaaGreatDoorBu
import Derived.Test.YtjbaijgdkkccbaaGreatDoorBr
namespace Go.Proofs.YtjbaijgdkkccbaaGreatDoor
open Go.RowKit

abbrev revC (x : Rev) (aa : Option Addr) (ac : Nat) : Array Value := #[.int .i64 x.no, .int .i64 x.tm, .string x.paper, .string x.person, .string x.by_, .bool x.done, .slice aa x.answers.length ac]
/-- A review is being made in block rb; its answers are new since wo. -/
structure MkR (σ : St) (rb : Nat) (wo : World) (x : Rev) (aa : Option Addr) (ac : Nat) (wx : World) (n : Nat) : Prop where
  blk : wx.heap[rb]? = some (.cells (revC x aa ac) 73 (0, 0))
  sm : RevSmall x
  al : x.answers.length ≤ 200
  ans : Acc RAns 4 143 (fun _ => False) wo.heap.size wx (.slice aa x.answers.length ac) x.answers
  st : Str σ wx n
  bt : But σ.b wo wx
  hs : σ.b < wo.heap.size
  hp : wo.heap.size ≤ rb
section
variable {σ : St} {rb : Nat} {wo wx W : World} {x : Rev} {aa : Option Addr} {ac n : Nat}
theorem MkR.keep (h : MkR σ rb wo x aa ac wx n) {m : Nat} (k : But σ.b wx W) (hs : Str σ W m) : MkR σ rb wo x aa ac W m := by
  have h1 := h.hs; have h2 := h.hp
  exact ⟨k.heap h.blk (by omega), h.sm, h.al, h.ans.keep RAns.ok k (fun _ h => h.elim) (fun j hj => by have := (h.ans.lt j hj).1; omega), hs, h.bt.trans k, h1, h2⟩
theorem MkR.new (h : MkR σ rb wo x aa ac wx n) (k : All wx W) : MkR σ rb wo x aa ac W n := h.keep k.all (h.st.keep k)
theorem MkR.put (h : MkR σ rb wo x aa ac wx n) (i : Nat) (u : Value) {x' : Rev} {aa' : Option Addr} {ac' : Nat} (hc : (revC x aa ac).setIfInBounds i u = revC x' aa' ac') (hsm : RevSmall x') (hal : x'.answers.length ≤ 200)
    (hacc : Acc RAns 4 143 (fun _ => False) wo.heap.size wx (.slice aa' x'.answers.length ac') x'.answers) : MkR σ rb wo x' aa' ac' (wx.setCell ⟨rb, i, none⟩ u) n := by
  have h1 := h.hs; have h2 := h.hp
  have k : Kept (fun k => k ≠ rb) wx (wx.setCell ⟨rb, i, none⟩ u) := Kept.setCell _ _ _ (fun h => h rfl)
  refine ⟨?_, hsm, hal, hacc.keep RAns.ok k (fun _ h => h.elim) (hacc.notType h.blk (by decide)), h.st.set _ _ (by dsimp only; omega), h.bt.then_setNew _ _ (by dsimp only; omega), h1, h2⟩
  rw [← hc]
  exact heap_setCell_at _ _ _ _ _ _ _ h.blk
end
/-- Some review is being made in block rb. -/
def MadeR (σ : St) (rb : Nat) (wo wx : World) (n c : Nat) : Prop := ∃ (x : Rev) (aa : Option Addr) (ac n' : Nat), MkR σ rb wo x aa ac wx n' ∧ n ≤ n' ∧ n' ≤ n + c
/-- Reviews of the call's own. -/
def PRevs (σ : St) (B hi : Nat) (v : Value) (w : World) : Prop := ∃ xs : List Rev, xs.length ≤ hi ∧ Acc RRev 7 73 (fun k => k ≠ σ.b) B w v xs
/-- An element's place in a row of pairs; answers; a review. -/
def PAtP (a : Option Addr) (l : Nat) (v : Value) (_ : World) : Prop := ∃ b o i, a = some ⟨b, o, none⟩ ∧ i < l ∧ v = .pointer (some ⟨b, o + i * 2, none⟩)
theorem PAtP.stays (σ : St) (a : Option Addr) (l : Nat) : Stays (fun w w' => But σ.b w w') (PAtP a l) := fun _ _ _ _ h => h
def PAnsV (B : Nat) (v : Value) (w : World) : Prop := ∃ (ys : List Ans4) (aa : Option Addr) (ac : Nat), v = .slice aa ys.length ac ∧ ys.length ≤ 200 ∧ Acc RAns 4 143 (fun _ => False) B w (.slice aa ys.length ac) ys
theorem PAnsV.stays (σ : St) (B : Nat) (hB : σ.b < B) : Stays (fun w w' => But σ.b w w') (PAnsV B) := fun _ _ _ k ⟨ys, aa, ac, h1, h2, h3⟩ => ⟨ys, aa, ac, h1, h2, h3.keep RAns.ok k (fun _ h => h.elim) (fun j hj => by have := (h3.lt j hj).1; omega)⟩
def PRevV (B : Nat) (v : Value) (w : World) : Prop := ∃ (x : Rev) (aa : Option Addr) (ac : Nat), v = .agg (revC x aa ac) ∧ RevSmall x ∧ x.answers.length ≤ 200 ∧ Acc RAns 4 143 (fun _ => False) B w (.slice aa x.answers.length ac) x.answers
theorem PRevV.stays (σ : St) (B : Nat) (hB : σ.b < B) : Stays (fun w w' => But σ.b w w') (PRevV B) := fun _ _ _ k ⟨x, aa, ac, h1, h2, h4, h3⟩ => ⟨x, aa, ac, h1, h2, h4, h3.keep RAns.ok k (fun _ h => h.elim) (fun j hj => by have := (h3.lt j hj).1; omega)⟩
theorem revSmall_one {F : Nat → Prop} {w : World} {vs : List Value} {y : Rev} (h : RRev F w vs y) : ∀ u ∈ vs, u.oneCell' = true := by
  obtain ⟨a, c, rfl, -, -⟩ := h
  intro u hu
  simp only [List.mem_cons, List.not_mem_nil, or_false] at hu
  rcases hu with rfl | rfl | rfl | rfl | rfl | rfl | rfl <;> rfl
/-- A copy of reviews; what they refer to is shared. -/
def CopyR (F : Nat → Prop) (xs : List Rev) (w : World) (e : Ending) (w' : World) : Prop := ∃ p c, e = .returned (.slice p xs.length c) ∧ Acc RRev 7 73 (fun k => F k ∧ k < w.heap.size) w.heap.size w' (.slice p xs.length c) xs ∧ All w w'
set_option maxHeartbeats 800000 in
theorem cloneRev_any (F : Nat → Prop) (a : Option Addr) (len cap : Nat) (xs : List Rev) (w : World) (hs : Sl RRev 7 F w a len xs) (hl : len ≤ 1000000) :
    Calls Tryz.prog 38 #[.slice a len cap] w (CopyR F xs w) := by
  have Hlen := Lib.hid hs.len
  cases a with
  | none =>
    have h0 : len = 0 := by
      rcases Nat.eq_zero_or_pos len with h | h
      · exact h
      · obtain ⟨b, off, ha, -⟩ := hs.2 h
        cases ha
    have hx : xs = [] := List.eq_nil_of_length_eq_zero (by have := Hlen.out; omega)
    subst hx
    subst h0
    have hnil := @Lib.run_eql_slice_nil Tryz.prog
    go_enter Tryz.func38, Tryz.ntmps38
    go_wp2_with fail
    go_ret
    exact ⟨_, _, rfl, Acc.nil _ _ _ _ _ _, Kept.refl _ _⟩
  | some ad =>
    have hnil := @Lib.run_eql_slice_nil Tryz.prog
    have hsl : Sl RRev 7 (fun k => F k ∧ k < w.heap.size) w (some ad) len xs := hs.live RRev.ok (by decide)
    go_enter Tryz.func38, Tryz.ntmps38
    go_wp2_with (at_builtin; refine wp_cloneG RRev.ok _ rfl _ _ 32 rfl 73 (.agg #[.int .i64 0, .int .i64 0, .string ⟨#[]⟩, .string ⟨#[]⟩, .string ⟨#[]⟩, .bool false, .slice none 0 0]) 7 96 Tryz.underlying32 (by kernel_rfl) rfl (by decide) (fun k => F k ∧ k < w.heap.size) w rfl rfl ad len cap xs rfl (hsl.keep RRev.ok (Kept.alloc _ _ _)) (fun _ h => h.2) (fun vs y hv => revSmall_one hv) (by omega) (by decide) ?_)
    intro p' c' w2 hacc hw2
    clear hs hsl hnil
    go_wp2_with fail
    go_ret
    exact ⟨_, _, rfl, hacc, hw2⟩

set_option maxRecDepth 100000 in
set_option maxHeartbeats 12800000 in
theorem reviews_any (σ : St) (n0 : Nat) (w0 : World) (a0 : Option Addr) (l0 c0 : Nat) (a1 : Option Addr) (l1 c1 : Nat) (a2 : Option Addr) (l2 c2 : Nat) (a3 : Option Addr) (l3 c3 : Nat) (a4 : Option Addr) (l4 c4 : Nat) (s : Set7) (M : Nat) (hs0 : Str σ w0 n0) (hn : n0 ≤ 4611686018427100000) (his : SetIs (fun k => k ≠ σ.b) w0 a0 l0 a1 l1 a2 l2 a3 l3 a4 l4 s) (hl0 : l0 ≤ 40) (hl2 : l2 ≤ 1000) (hM : M ≤ 12) (hg : ∀ wx, But σ.b w0 wx → Glob wx) :
    Calls Tryz.prog 36 #[.pointer (some ⟨σ.b, 0, none⟩), .agg #[.slice a0 l0 c0, .slice a1 l1 c1, .slice a2 l2 c2, .slice a3 l3 c3, .slice a4 l4 c4, .int .i64 s.due, .int .i64 s.reply], .int .i64 M] w0 (StPost σ n0 60000 w0 (PRevs σ w0.heap.size M)) := by
  have hls := hs0.lt
  have hk1 : All w0 (w0.alloc (.cells #[.slice a0 l0 c0, .slice a1 l1 c1, .slice a2 l2 c2, .slice a3 l3 c3, .slice a4 l4 c4, .int .i64 s.due, .int .i64 s.reply] 31)) := Kept.alloc _ _ _
  have hblk := heap_at w0 (.cells #[.slice a0 l0 c0, .slice a1 l1 c1, .slice a2 l2 c2, .slice a3 l3 c3, .slice a4 l4 c4, .int .i64 s.due, .int .i64 s.reply] 31) _ rfl
  have hs1 := hs0.keep hk1
  have hz01 : w0.heap.size ≤ (w0.alloc (.cells #[.slice a0 l0 c0, .slice a1 l1 c1, .slice a2 l2 c2, .slice a3 l3 c3, .slice a4 l4 c4, .int .i64 s.due, .int .i64 s.reply] 31)).heap.size := by simp
  obtain ⟨xb, hxb⟩ : ∃ b, b = w0.heap.size := ⟨_, rfl⟩
  have HXBE := Lib.hid hxb
  rw [← hxb] at hblk
  have hxs : σ.b < xb := by omega
  have HXB := Lib.hid (show ∀ wx, But σ.b (w0.alloc (.cells #[.slice a0 l0 c0, .slice a1 l1 c1, .slice a2 l2 c2, .slice a3 l3 c3, .slice a4 l4 c4, .int .i64 s.due, .int .i64 s.reply] 31)) wx → SetAt xb (.slice a0 l0 c0) (.slice a1 l1 c1) (.slice a2 l2 c2) (.slice a3 l3 c3) (.slice a4 l4 c4) s.due s.reply wx from fun wx k => by
    have hb := k.heap hblk (by omega)
    exact ⟨cell_at (i := 0) hb rfl, cell_at (i := 1) hb rfl, cell_at (i := 2) hb rfl, cell_at (i := 3) hb rfl, cell_at (i := 4) hb rfl, cell_at (i := 5) hb rfl, cell_at (i := 6) hb rfl⟩)
  have HIS := Lib.hid (fun (wx : World) (k : But σ.b (w0.alloc (.cells #[.slice a0 l0 c0, .slice a1 l1 c1, .slice a2 l2 c2, .slice a3 l3 c3, .slice a4 l4 c4, .int .i64 s.due, .int .i64 s.reply] 31)) wx) => (his.keep hk1.all).keep k)
  have HG := Lib.hid (fun (wx : World) (k : But σ.b (w0.alloc (.cells #[.slice a0 l0 c0, .slice a1 l1 c1, .slice a2 l2 c2, .slice a3 l3 c3, .slice a4 l4 c4, .int .i64 s.due, .int .i64 s.reply] 31)) wx) => hg wx (hk1.all.trans k))
  have HK1 := Lib.hid hk1
  clear hk1 hblk hs0 his hg hxb
  go_enter Tryz.func36, Tryz.ntmps36
  go_wp2_with fail
  simp only [← HXBE.out]
  generalize w0.alloc (.cells #[.slice a0 l0 c0, .slice a1 l1 c1, .slice a2 l2 c2, .slice a3 l3 c3, .slice a4 l4 c4, .int .i64 s.due, .int .i64 s.reply] 31) = w1 at *
  go_loopw [7, 8, 12] (fun ov tv i wr => ∃ k : Nat, k ≤ M ∧ i = .int .i64 k ∧ ∃ (xs : List Rev) (n' : Nat) (tm : Int), tv = .int .i64 tm ∧ 0 ≤ tm ∧ tm ≤ 1440 * (k : Int) ∧ xs.length ≤ k ∧ Acc RRev 7 73 (fun j => j ≠ σ.b) w1.heap.size wr ov xs ∧ Str σ wr n' ∧ n0 ≤ n' ∧ n' ≤ n0 + 4000 * k ∧ But σ.b w1 wr) (fun _ _ i _ => M - (intOf i).toNat)
  case atStart => exact ⟨0, Nat.zero_le _, rfl, [], n0, 0, rfl, by omega, by omega, Nat.le_refl _, Acc.nil _ _ _ _ _ _, hs1, Nat.le_refl _, by omega, Kept.refl _ _⟩
  case round =>
    clear hs1
    obtain ⟨k, hk, rfl, xs, n1, tm, rfl, ht0, ht1, hxl, aco, hso, hnA, hnB, hwo⟩ := hrel
    obtain ⟨wo, rfl⟩ : ∃ wo : World, wo = wr := ⟨_, rfl⟩
    obtain ⟨ov, oc, rfl, -⟩ := aco.form
    obtain ⟨q, hq⟩ : ∃ q, q = xs.length := ⟨_, rfl⟩
    have HQ := Lib.hid hq
    rw [← hq] at aco hxl ⊢
    clear hq
    have hlo := hso.lt
    have hwz := hwo.size
    have HAC := Lib.hid aco
    clear aco
    by_cases hlt : k < M
    case neg =>
      have hfin := Lib.hid (show PRevs σ w0.heap.size M (.slice ov q oc) wo from ⟨xs, by have := HQ.out; omega, HAC.out.base hz01⟩)
      have hbf := Lib.hid (HK1.out.all.trans hwo)
      have hdk : decide ((k : Int) < (M : Int)) = false := by simp; omega
      clear hwo
      go_wp2_with fail
      go_ret
      exact ⟨_, n1, rfl, hfin.out, by omega, by omega, hso, hbf.out⟩
    case pos =>
      obtain ⟨e0, e1, e2, e3, e4, e5, e6⟩ := HXB.out _ hwo
      by_cases hz : l2 = 0
      case pos =>
        have hfin := Lib.hid (show PRevs σ w0.heap.size M (.slice ov q oc) wo from ⟨xs, by have := HQ.out; omega, HAC.out.base hz01⟩)
        have hbf := Lib.hid (HK1.out.all.trans hwo)
        have hdz : ((l2 : Int) == 0) = true := by simp; omega
        clear hwo hz
        go_wp2_with fail
        go_ret
        exact ⟨_, n1, rfl, hfin.out, by omega, by omega, hso, hbf.out⟩
      case neg =>
        have hdz : ((l2 : Int) == 0) = false := by simp; omega
        have hl2p : 0 < l2 := by omega
        clear hz
        go_wp2_with fail
        refine (pick_any σ n1 _ 5 5 [0, 10, 100, 1000, 1440] _ (hso.keep (Kept.alloc _ _ _)) (by omega) (Sl.lit_ints _ (heap_at wo _ _ rfl) rfl (by omega)) (by omega) (by omega)).mono ?_
        rintro e w2 ⟨v, n2, rfl, ⟨d, rfl, hd⟩, hA2, hB2, hs2, hb2'⟩
        have hb2 : But σ.b wo w2 := (Kept.all (Kept.alloc _ _ _)).trans hb2'
        have hd0 : 0 ≤ d ∧ d ≤ 1440 := by simp at hd; omega
        obtain ⟨hd1, hd2⟩ := hd0
        obtain ⟨tm2, htm2⟩ : ∃ z, z = tm + d := ⟨_, rfl⟩
        have HTM := Lib.hid htm2
        have ht20 : 0 ≤ tm2 := by omega
        have ht21 : tm2 ≤ 1440 * ((k : Int) + 1) := by omega
        have ht22 : tm2 ≤ 1000000 := by omega
        clear hb2' hd htm2 hso
        have hw2 := hwo.trans hb2
        have hl2s := hs2.lt
        clear e0 e1 e2 e3 e4 e5 e6
        have hbz2 := hb2.size
        go_upto_region 7 with fail
        simp only [← HTM.out]
        clear ht0 ht1 hd1 hd2
        have HST := Lib.hid hs2
        clear hs2
        refine wp_region_inv 10 (by kernel_rfl) (by kernel_rfl) (by kernel_rfl) (GStr 1 σ n2 w2)
          (DL [PIs (.pointer (some ⟨xb, 2, none⟩)), PIs (.slice a2 l2 c2), PIs (.pointer (some ⟨σ.b, 0, none⟩)), PIs (.pointer (some ⟨xb, 2, none⟩)), PIs (.slice a2 l2 c2), PIs (.int .i64 l2), PNum (fun r => 0 ≤ r ∧ r < l2), PAtP a2 l2, PPrV, PNew σ w2.heap.size 39 #[.string ⟨#[]⟩, .string ⟨#[]⟩]]) (fun w w' => But σ.b w w')
          (DL.keep (by simp only [List.forall_mem_cons, List.not_mem_nil, false_implies, implies_true, and_true]; exact ⟨PIs.stays _ _, PIs.stays _ _, PIs.stays _ _, PIs.stays _ _, PIs.stays _ _, PIs.stays _ _, PNum.stays _ _, PAtP.stays _ _ _, PPrV.stays _, PNew.stays _ _ _ _⟩)) ?_ ?_ ?_
        · exact ⟨n2, Nat.le_refl _, by omega, HST.out.keep (Kept.drew _ _), Kept.drew _ _⟩
        · intro i o t ho hd hi k' a' wx hk hg hdf hts hoth hdeps
          obtain ⟨m, hm1, hm2, hst, hbut⟩ := hg
          have hlt9 := hst.lt
          have hszx := hbut.size
          obtain ⟨e0', e1', e2', e3', e4', e5', e6'⟩ := HXB.out wx (hw2.trans hbut)
          have hz : i = 0 ∨ i = 1 ∨ i = 2 ∨ i = 3 ∨ i = 4 ∨ i = 5 ∨ i = 6 ∨ i = 7 ∨ i = 8 ∨ i = 9 := by omega
          rcases hz with rfl | rfl | rfl | rfl | rfl | rfl | rfl | rfl | rfl | rfl
          · obtain rfl := Option.some.inj ho
            obtain rfl := Option.some.inj hd
            have e0 : a'.tmps.getD 4 undef = (.pointer (some ⟨xb, 0, none⟩)) := tmp_of ((hoth 4 (by decide)).trans rfl)
            clear hoth hdeps hdf hts ho
            refine wp_via (fun K' hK => ?_)
            have HK := Lib.hid hK
            clear hK
            go_simp
            exact HK.out _ _ ⟨_, rfl, GStr.same hm1 hm2 hst hbut, Kept.refl _ _, rfl⟩
          · obtain rfl := Option.some.inj ho
            obtain rfl := Option.some.inj hd
            have e0 : a'.tmps.getD 23 undef = (.pointer (some ⟨xb, 2, none⟩)) := hdeps 0 (by decide) 23 rfl
            clear hoth hdeps hdf hts ho
            refine wp_via (fun K' hK => ?_)
            have HK := Lib.hid hK
            clear hK
            go_simp
            exact HK.out _ _ ⟨_, rfl, GStr.same hm1 hm2 hst hbut, Kept.refl _ _, rfl⟩
          · obtain rfl := Option.some.inj ho
            obtain rfl := Option.some.inj hd
            have e0 : a'.tmps.getD 0 undef = (.pointer (some ⟨σ.b, 0, none⟩)) := tmp_of ((hoth 0 (by decide)).trans rfl)
            clear hoth hdeps hdf hts ho
            refine wp_via (fun K' hK => ?_)
            have HK := Lib.hid hK
            clear hK
            go_simp
            exact HK.out _ _ ⟨_, rfl, GStr.same hm1 hm2 hst hbut, Kept.refl _ _, rfl⟩
          · obtain rfl := Option.some.inj ho
            obtain rfl := Option.some.inj hd
            have e0 : a'.tmps.getD 4 undef = (.pointer (some ⟨xb, 0, none⟩)) := tmp_of ((hoth 4 (by decide)).trans rfl)
            clear hoth hdeps hdf hts ho
            refine wp_via (fun K' hK => ?_)
            have HK := Lib.hid hK
            clear hK
            go_simp
            exact HK.out _ _ ⟨_, rfl, GStr.same hm1 hm2 hst hbut, Kept.refl _ _, rfl⟩
          · obtain rfl := Option.some.inj ho
            obtain rfl := Option.some.inj hd
            have e0 : a'.tmps.getD 26 undef = (.pointer (some ⟨xb, 2, none⟩)) := hdeps 3 (by decide) 26 rfl
            clear hoth hdeps hdf hts ho
            refine wp_via (fun K' hK => ?_)
            have HK := Lib.hid hK
            clear hK
            go_simp
            exact HK.out _ _ ⟨_, rfl, GStr.same hm1 hm2 hst hbut, Kept.refl _ _, rfl⟩
          · obtain rfl := Option.some.inj ho
            obtain rfl := Option.some.inj hd
            have e0 : a'.tmps.getD 27 undef = (.slice a2 l2 c2) := hdeps 4 (by decide) 27 rfl
            clear hoth hdeps hdf hts ho
            refine wp_via (fun K' hK => ?_)
            have HK := Lib.hid hK
            clear hK
            go_simp
            exact HK.out _ _ ⟨_, rfl, GStr.same hm1 hm2 hst hbut, Kept.refl _ _, rfl⟩
          · obtain rfl := Option.some.inj ho
            obtain rfl := Option.some.inj hd
            have e0 : a'.tmps.getD 25 undef = (.pointer (some ⟨σ.b, 0, none⟩)) := hdeps 2 (by decide) 25 rfl
            have e1 : a'.tmps.getD 28 undef = .int .i64 l2 := hdeps 5 (by decide) 28 rfl
            clear hoth hdeps hdf hts ho
            refine wp_via (fun K' hK => ?_)
            have HK := Lib.hid hK
            clear hK
            go_simp
            refine (next_any σ m (l2 : Int) _ hst (by omega) (by omega) (by omega)).mono ?_
            rintro e w2x ⟨v, m2, rfl, ⟨r, rfl, hr1, hr2⟩, hm3, hm4, hst2, hb2x⟩
            exact HK.out _ _ ⟨_, rfl, GStr.call hm1 hm2 hbut hm3 (by omega) hst2 hb2x, hb2x, ⟨r, rfl, hr1, hr2⟩⟩
          · obtain rfl := Option.some.inj ho
            obtain rfl := Option.some.inj hd
            have e0 : a'.tmps.getD 24 undef = (.slice a2 l2 c2) := hdeps 1 (by decide) 24 rfl
            obtain ⟨r, e1, hr1, hr2⟩ : PNum (fun r => 0 ≤ r ∧ r < l2) (a'.tmps.getD 29 undef) wx := hdeps 6 (by decide) 29 rfl
            obtain ⟨ri, rfl⟩ := Int.eq_ofNat_of_zero_le hr1
            have hri : ri < l2 := by omega
            obtain ⟨b2, o2, ha2, -⟩ := (HIS.out wx (hw2.trans hbut)).pairs.2 hl2p
            rw [ha2] at e0
            clear hoth hdeps hdf hts ho
            refine wp_via (fun K' hK => ?_)
            have HK := Lib.hid hK
            clear hK
            go_simp
            exact HK.out _ _ ⟨_, rfl, GStr.same hm1 hm2 hst hbut, Kept.refl _ _, ⟨b2, o2, ri, ha2, hri, rfl⟩⟩
          · obtain rfl := Option.some.inj ho
            obtain rfl := Option.some.inj hd
            obtain ⟨b2, o2, ri, ha2, hri, e0⟩ : PAtP a2 l2 (a'.tmps.getD 30 undef) wx := hdeps 7 (by decide) 30 rfl
            obtain ⟨b3, o3, y, ha3, -, d0, d1, -, -, -⟩ := (HIS.out wx (hw2.trans hbut)).pairs.atPair hri
            rw [ha2] at ha3
            injection ha3 with ha3
            injection ha3 with h1 h2 _
            subst h1 h2
            clear hoth hdeps hdf hts ho
            refine wp_via (fun K' hK => ?_)
            have HK := Lib.hid hK
            clear hK
            go_simp
            exact HK.out _ _ ⟨_, rfl, GStr.same hm1 hm2 hst hbut, Kept.refl _ _, ⟨y, rfl⟩⟩
          · obtain rfl := Option.some.inj ho
            obtain rfl := Option.some.inj hd
            clear hoth hdeps hdf hts ho
            refine wp_via (fun K' hK => ?_)
            have HK := Lib.hid hK
            clear hK
            go_simp
            exact HK.out _ _ ⟨_, rfl, GStr.alloc _ hm1 hm2 hst hbut, Kept.alloc _ _ _, ⟨wx.heap.size, rfl, hszx, Nat.ne_of_gt hlt9, heap_at _ _ _ rfl⟩⟩
        · intro wx f hg hd
          obtain ⟨m, hm1, hm2, hst, hbut⟩ := hg
          obtain ⟨y, e31⟩ : PPrV (f 31) wx := hd 8 31 (by decide) rfl
          obtain ⟨pb, e9, hpb1, hpb2, hpb3⟩ : PNew σ w2.heap.size 39 #[.string ⟨#[]⟩, .string ⟨#[]⟩] (f 9) wx := hd 9 9 (by decide) rfl
          have hpbl := (Array.getElem?_eq_some_iff.1 hpb3).1
          rw [show dsts _ 10 = [23, 24, 25, 26, 27, 28, 29, 30, 31, 9] from by kernel_rfl]
          simp only [List.map_cons, List.map_nil, puts, Act.put, e31, e9, List.drop_succ_cons, List.drop_zero]
          generalize f 23 = f23
          generalize f 24 = f24
          generalize f 25 = f25
          generalize f 26 = f26
          generalize f 27 = f27
          generalize f 28 = f28
          generalize f 29 = f29
          generalize f 30 = f30
          clear hd e31 e9
          simp only [List.setIfInBounds_toArray, List.set_cons_zero, List.set_cons_succ]
          have q0 := cell_at (i := 0) hpb3 rfl
          have q1 := cell_at (i := 1) hpb3 rfl
          have z0 := frozen_at (i := 0) hpb3
          have z1 := frozen_at (i := 1) hpb3
          have hp3' := heap_setCell_at _ pb 1 (.string y.person) _ _ _ (heap_setCell_at wx pb 0 (.string y.paper) _ _ _ hpb3)
          have hp3 : ((wx.setCell ⟨pb, 0, none⟩ (.string y.paper)).setCell ⟨pb, 1, none⟩ (.string y.person)).heap[pb]? = some (.cells #[.string y.paper, .string y.person] 39 (0, 0)) := by simpa using hp3'
          have hs3 : Str σ ((wx.setCell ⟨pb, 0, none⟩ (.string y.paper)).setCell ⟨pb, 1, none⟩ (.string y.person)) m := (hst.set _ _ (by dsimp only; omega)).set _ _ (by dsimp only; omega)
          have hb3 : But σ.b w2 ((wx.setCell ⟨pb, 0, none⟩ (.string y.paper)).setCell ⟨pb, 1, none⟩ (.string y.person)) := (hbut.then_setNew _ _ hpb1).then_setNew _ _ hpb1
          clear hp3' hpb3 hst hbut
          have hyz1 := y.h1
          have hyz2 := y.h2
          go_upto_region 8 with fail
          generalize ((wx.setCell ⟨pb, 0, none⟩ (.string y.paper)).setCell ⟨pb, 1, none⟩ (.string y.person)) = w3 at *
          clear q0 q1 z0 z1
          have hw3 := hw2.trans hb3
          have hl3 := hs3.lt
          have hbz3 := hb3.size
          have hmn : n0 ≤ m ∧ m ≤ n0 + 4000 * k + 20 := by omega
          have hbo3 : But σ.b wo w3 := hb2.trans hb3
          clear HST
          have HST := Lib.hid hs3
          have HP3 := Lib.hid (fun (wx : World) (k : But σ.b w3 wx) => k.heap hp3 (by omega))
          clear hs3 hp3 hb2 hb3 hm1 hm2 hw2
          have fq : IntKind.i64.wrap ((q : Int) + 1) = (q : Int) + 1 := IntWalk.i64_in _ (by omega)
          refine wp_region_inv 19 (by kernel_rfl) (by kernel_rfl) (by kernel_rfl) (GStr 200 σ m w3)
            (DL [PIs (.slice ov q oc), PIs (.int .i64 q), PIs (.int .i64 ((q : Int) + 1)), PIs (.int .i64 tm2), PIs (.pointer (some ⟨pb, 0, none⟩)), PIs (.string y.paper), PIs (.pointer (some ⟨pb, 1, none⟩)), PIs (.string y.person), PIs (.pointer (some ⟨σ.b, 0, none⟩)), PStrs σ [⟨#[]⟩, ⟨#[]⟩, ⟨#[103, 117, 115]⟩, ⟨#[98, 111, 98]⟩, ⟨#[104, 97, 108]⟩], PStr (fun r => r.size ≤ 1000000), PIs (.pointer (some ⟨σ.b, 0, none⟩)), PBool, PIs (.pointer (some ⟨σ.b, 0, none⟩)), PIs (.pointer (some ⟨xb, 0, none⟩)), PIs (.slice a0 l0 c0), PAnsV w3.heap.size, PRevV w3.heap.size, PNew σ w3.heap.size 73 #[.int .i64 0, .int .i64 0, .string ⟨#[]⟩, .string ⟨#[]⟩, .string ⟨#[]⟩, .bool false, .slice none 0 0]]) (fun w w' => But σ.b w w')
            (DL.keep (by simp only [List.forall_mem_cons, List.not_mem_nil, false_implies, implies_true, and_true]; exact ⟨PIs.stays _ _, PIs.stays _ _, PIs.stays _ _, PIs.stays _ _, PIs.stays _ _, PIs.stays _ _, PIs.stays _ _, PIs.stays _ _, PIs.stays _ _, PStrs.stays _ _, PStr.stays _ _, PIs.stays _ _, PBool.stays _, PIs.stays _ _, PIs.stays _ _, PIs.stays _ _, PAnsV.stays _ _ hl3, PRevV.stays _ _ hl3, PNew.stays _ _ _ _⟩)) ?_ ?_ ?_
          · exact ⟨m, Nat.le_refl _, by omega, HST.out.keep (Kept.drew _ _), Kept.drew _ _⟩
          · intro i o t ho hd hi k' a' wx hk hg hdf hts hoth hdeps
            obtain ⟨m, hm1, hm2, hst, hbut⟩ := hg
            have hlt9 := hst.lt
            have hszx := hbut.size
            obtain ⟨e0', e1', e2', e3', e4', e5', e6'⟩ := HXB.out wx (hw3.trans hbut)
            have hpx := HP3.out wx hbut
            have g0 := cell_at (i := 0) hpx rfl
            have g1 := cell_at (i := 1) hpx rfl
            clear hpx
            have hz : i = 0 ∨ i = 1 ∨ i = 2 ∨ i = 3 ∨ i = 4 ∨ i = 5 ∨ i = 6 ∨ i = 7 ∨ i = 8 ∨ i = 9 ∨ i = 10 ∨ i = 11 ∨ i = 12 ∨ i = 13 ∨ i = 14 ∨ i = 15 ∨ i = 16 ∨ i = 17 ∨ i = 18 := by omega
            rcases hz with rfl | rfl | rfl | rfl | rfl | rfl | rfl | rfl | rfl | rfl | rfl | rfl | rfl | rfl | rfl | rfl | rfl | rfl | rfl
            · obtain rfl := Option.some.inj ho
              obtain rfl := Option.some.inj hd
              have e0 : a'.tmps.getD 7 undef = (.slice ov q oc) := tmp_of ((hoth 7 (by decide)).trans rfl)
              clear hoth hdeps hdf hts ho
              refine wp_via (fun K' hK => ?_)
              have HK := Lib.hid hK
              clear hK
              go_simp
              exact HK.out _ _ ⟨_, rfl, GStr.same hm1 hm2 hst hbut, Kept.refl _ _, rfl⟩
            · obtain rfl := Option.some.inj ho
              obtain rfl := Option.some.inj hd
              have e0 : a'.tmps.getD 32 undef = (.slice ov q oc) := hdeps 0 (by decide) 32 rfl
              clear hoth hdeps hdf hts ho
              refine wp_via (fun K' hK => ?_)
              have HK := Lib.hid hK
              clear hK
              go_simp
              exact HK.out _ _ ⟨_, rfl, GStr.same hm1 hm2 hst hbut, Kept.refl _ _, rfl⟩
            · obtain rfl := Option.some.inj ho
              obtain rfl := Option.some.inj hd
              have e0 : a'.tmps.getD 33 undef = .int .i64 q := hdeps 1 (by decide) 33 rfl
              clear hoth hdeps hdf hts ho
              refine wp_via (fun K' hK => ?_)
              have HK := Lib.hid hK
              clear hK
              go_simp
              exact HK.out _ _ ⟨_, rfl, GStr.same hm1 hm2 hst hbut, Kept.refl _ _, rfl⟩
            · obtain rfl := Option.some.inj ho
              obtain rfl := Option.some.inj hd
              have e0 : a'.tmps.getD 8 undef = (.int .i64 tm2) := tmp_of ((hoth 8 (by decide)).trans rfl)
              clear hoth hdeps hdf hts ho
              refine wp_via (fun K' hK => ?_)
              have HK := Lib.hid hK
              clear hK
              go_simp
              exact HK.out _ _ ⟨_, rfl, GStr.same hm1 hm2 hst hbut, Kept.refl _ _, rfl⟩
            · obtain rfl := Option.some.inj ho
              obtain rfl := Option.some.inj hd
              have e0 : a'.tmps.getD 9 undef = (.pointer (some ⟨pb, 0, none⟩)) := tmp_of ((hoth 9 (by decide)).trans rfl)
              clear hoth hdeps hdf hts ho
              refine wp_via (fun K' hK => ?_)
              have HK := Lib.hid hK
              clear hK
              go_simp
              exact HK.out _ _ ⟨_, rfl, GStr.same hm1 hm2 hst hbut, Kept.refl _ _, rfl⟩
            · obtain rfl := Option.some.inj ho
              obtain rfl := Option.some.inj hd
              have e0 : a'.tmps.getD 36 undef = (.pointer (some ⟨pb, 0, none⟩)) := hdeps 4 (by decide) 36 rfl
              clear hoth hdeps hdf hts ho
              refine wp_via (fun K' hK => ?_)
              have HK := Lib.hid hK
              clear hK
              go_simp
              exact HK.out _ _ ⟨_, rfl, GStr.same hm1 hm2 hst hbut, Kept.refl _ _, rfl⟩
            · obtain rfl := Option.some.inj ho
              obtain rfl := Option.some.inj hd
              have e0 : a'.tmps.getD 9 undef = (.pointer (some ⟨pb, 0, none⟩)) := tmp_of ((hoth 9 (by decide)).trans rfl)
              clear hoth hdeps hdf hts ho
              refine wp_via (fun K' hK => ?_)
              have HK := Lib.hid hK
              clear hK
              go_simp
              exact HK.out _ _ ⟨_, rfl, GStr.same hm1 hm2 hst hbut, Kept.refl _ _, rfl⟩
            · obtain rfl := Option.some.inj ho
              obtain rfl := Option.some.inj hd
              have e0 : a'.tmps.getD 38 undef = (.pointer (some ⟨pb, 1, none⟩)) := hdeps 6 (by decide) 38 rfl
              clear hoth hdeps hdf hts ho
              refine wp_via (fun K' hK => ?_)
              have HK := Lib.hid hK
              clear hK
              go_simp
              exact HK.out _ _ ⟨_, rfl, GStr.same hm1 hm2 hst hbut, Kept.refl _ _, rfl⟩
            · obtain rfl := Option.some.inj ho
              obtain rfl := Option.some.inj hd
              have e0 : a'.tmps.getD 0 undef = (.pointer (some ⟨σ.b, 0, none⟩)) := tmp_of ((hoth 0 (by decide)).trans rfl)
              clear hoth hdeps hdf hts ho
              refine wp_via (fun K' hK => ?_)
              have HK := Lib.hid hK
              clear hK
              go_simp
              exact HK.out _ _ ⟨_, rfl, GStr.same hm1 hm2 hst hbut, Kept.refl _ _, rfl⟩
            · obtain rfl := Option.some.inj ho
              obtain rfl := Option.some.inj hd
              clear hoth hdeps hdf hts ho
              refine wp_via (fun K' hK => ?_)
              have HK := Lib.hid hK
              clear hK
              go_simp
              exact HK.out _ _ ⟨_, rfl, GStr.alloc _ hm1 hm2 hst hbut, Kept.alloc _ _ _, ⟨wx.heap.size, rfl, Nat.ne_of_gt hlt9, heap_at _ _ _ rfl⟩⟩
            · obtain rfl := Option.some.inj ho
              obtain rfl := Option.some.inj hd
              have e0 : a'.tmps.getD 40 undef = (.pointer (some ⟨σ.b, 0, none⟩)) := hdeps 8 (by decide) 40 rfl
              obtain ⟨b, e1, hb1, hb2⟩ : PStrs σ [⟨#[]⟩, ⟨#[]⟩, ⟨#[103, 117, 115]⟩, ⟨#[98, 111, 98]⟩, ⟨#[104, 97, 108]⟩] (a'.tmps.getD 41 undef) wx := hdeps 9 (by decide) 41 rfl
              clear hoth hdeps hdf hts ho
              refine wp_via (fun K' hK => ?_)
              have HK := Lib.hid hK
              clear hK
              go_simp
              refine (some10_any σ _ _ _ _ [⟨#[]⟩, ⟨#[]⟩, ⟨#[103, 117, 115]⟩, ⟨#[98, 111, 98]⟩, ⟨#[104, 97, 108]⟩] _ hst (by omega) (Sl.lit_strs _ hb2 rfl hb1) (by decide) (by decide)).mono ?_
              rintro e w2x ⟨v, m2, rfl, ⟨r, rfl, -, hr⟩, hm3, hm4, hst2, hb2x⟩
              exact HK.out _ _ ⟨_, rfl, GStr.call hm1 hm2 hbut hm3 (by omega) hst2 hb2x, hb2x, ⟨r, rfl, hr⟩⟩
            · obtain rfl := Option.some.inj ho
              obtain rfl := Option.some.inj hd
              have e0 : a'.tmps.getD 0 undef = (.pointer (some ⟨σ.b, 0, none⟩)) := tmp_of ((hoth 0 (by decide)).trans rfl)
              clear hoth hdeps hdf hts ho
              refine wp_via (fun K' hK => ?_)
              have HK := Lib.hid hK
              clear hK
              go_simp
              exact HK.out _ _ ⟨_, rfl, GStr.same hm1 hm2 hst hbut, Kept.refl _ _, rfl⟩
            · obtain rfl := Option.some.inj ho
              obtain rfl := Option.some.inj hd
              have e0 : a'.tmps.getD 43 undef = (.pointer (some ⟨σ.b, 0, none⟩)) := hdeps 11 (by decide) 43 rfl
              clear hoth hdeps hdf hts ho
              refine wp_via (fun K' hK => ?_)
              have HK := Lib.hid hK
              clear hK
              go_simp
              refine (flip_any σ _ 2 _ hst (by omega) (by omega) (by omega)).mono ?_
              rintro e w2x ⟨v, m2, rfl, ⟨r, rfl⟩, hm3, hm4, hst2, hb2x⟩
              exact HK.out _ _ ⟨_, rfl, GStr.call hm1 hm2 hbut hm3 (by omega) hst2 hb2x, hb2x, ⟨r, rfl⟩⟩
            · obtain rfl := Option.some.inj ho
              obtain rfl := Option.some.inj hd
              have e0 : a'.tmps.getD 0 undef = (.pointer (some ⟨σ.b, 0, none⟩)) := tmp_of ((hoth 0 (by decide)).trans rfl)
              clear hoth hdeps hdf hts ho
              refine wp_via (fun K' hK => ?_)
              have HK := Lib.hid hK
              clear hK
              go_simp
              exact HK.out _ _ ⟨_, rfl, GStr.same hm1 hm2 hst hbut, Kept.refl _ _, rfl⟩
            · obtain rfl := Option.some.inj ho
              obtain rfl := Option.some.inj hd
              have e0 : a'.tmps.getD 4 undef = (.pointer (some ⟨xb, 0, none⟩)) := tmp_of ((hoth 4 (by decide)).trans rfl)
              clear hoth hdeps hdf hts ho
              refine wp_via (fun K' hK => ?_)
              have HK := Lib.hid hK
              clear hK
              go_simp
              exact HK.out _ _ ⟨_, rfl, GStr.same hm1 hm2 hst hbut, Kept.refl _ _, rfl⟩
            · obtain rfl := Option.some.inj ho
              obtain rfl := Option.some.inj hd
              have e0 : a'.tmps.getD 46 undef = (.pointer (some ⟨xb, 0, none⟩)) := hdeps 14 (by decide) 46 rfl
              clear hoth hdeps hdf hts ho
              refine wp_via (fun K' hK => ?_)
              have HK := Lib.hid hK
              clear hK
              go_simp
              exact HK.out _ _ ⟨_, rfl, GStr.same hm1 hm2 hst hbut, Kept.refl _ _, rfl⟩
            · obtain rfl := Option.some.inj ho
              obtain rfl := Option.some.inj hd
              have e0 : a'.tmps.getD 45 undef = (.pointer (some ⟨σ.b, 0, none⟩)) := hdeps 13 (by decide) 45 rfl
              have e1 : a'.tmps.getD 47 undef = (.slice a0 l0 c0) := hdeps 15 (by decide) 47 rfl
              clear hoth hdeps hdf hts ho
              refine wp_via (fun K' hK => ?_)
              have HK := Lib.hid hK
              clear hK
              go_simp
              refine (answers_any σ _ _ a0 l0 c0 s.sheet hst (by omega) (HIS.out wx (hw3.trans hbut)).sheet (by omega)).mono ?_
              rintro e w2x ⟨v, m2, rfl, ⟨ys, hyl, hya⟩, hm3, hm4, hst2, hb2x⟩
              obtain ⟨aa, ac, rfl, -⟩ := hya.form
              exact HK.out _ _ ⟨_, rfl, GStr.call hm1 hm2 hbut hm3 (by omega) hst2 hb2x, hb2x, ⟨ys, aa, ac, rfl, by omega, hya.base hszx⟩⟩
            · obtain rfl := Option.some.inj ho
              obtain rfl := Option.some.inj hd
              have e34 : a'.tmps.getD 34 undef = .int .i64 ((q : Int) + 1) := hdeps 2 (by decide) 34 rfl
              have e35 : a'.tmps.getD 35 undef = .int .i64 tm2 := hdeps 3 (by decide) 35 rfl
              have e37 : a'.tmps.getD 37 undef = .string y.paper := hdeps 5 (by decide) 37 rfl
              have e39 : a'.tmps.getD 39 undef = .string y.person := hdeps 7 (by decide) 39 rfl
              obtain ⟨by1, e42, hby⟩ : PStr (fun r => r.size ≤ 1000000) (a'.tmps.getD 42 undef) wx := hdeps 10 (by decide) 42 rfl
              obtain ⟨fl, e44⟩ : PBool (a'.tmps.getD 44 undef) wx := hdeps 12 (by decide) 44 rfl
              obtain ⟨ys, aa, ac, e48, hyl, hya⟩ : PAnsV w3.heap.size (a'.tmps.getD 48 undef) wx := hdeps 16 (by decide) 48 rfl
              have f34 : a'.tmps[34]?.getD undef = .int .i64 ((q : Int) + 1) := by rw [← Array.getD_eq_getD_getElem?]; exact e34
              have f35 : a'.tmps[35]?.getD undef = .int .i64 tm2 := by rw [← Array.getD_eq_getD_getElem?]; exact e35
              have f37 : a'.tmps[37]?.getD undef = .string y.paper := by rw [← Array.getD_eq_getD_getElem?]; exact e37
              have f39 : a'.tmps[39]?.getD undef = .string y.person := by rw [← Array.getD_eq_getD_getElem?]; exact e39
              have f42 : a'.tmps[42]?.getD undef = .string by1 := by rw [← Array.getD_eq_getD_getElem?]; exact e42
              have f44 : a'.tmps[44]?.getD undef = .bool fl := by rw [← Array.getD_eq_getD_getElem?]; exact e44
              have f48 : a'.tmps[48]?.getD undef = .slice aa ys.length ac := by rw [← Array.getD_eq_getD_getElem?]; exact e48
              clear hoth hdeps hdf hts ho
              refine wp_via (fun K' hK => ?_)
              have HK := Lib.hid hK
              clear hK
              go_simp
              exact HK.out _ _ ⟨_, rfl, GStr.same hm1 hm2 hst hbut, Kept.refl _ _, ⟨⟨(q : Int) + 1, tm2, y.paper, y.person, by1, fl, ys⟩, aa, ac, rfl, ⟨hyz1, hyz2, hby, by show ys.length ≤ 1000; omega⟩, hyl, hya⟩⟩
            · obtain rfl := Option.some.inj ho
              obtain rfl := Option.some.inj hd
              clear hoth hdeps hdf hts ho
              refine wp_via (fun K' hK => ?_)
              have HK := Lib.hid hK
              clear hK
              go_simp
              exact HK.out _ _ ⟨_, rfl, GStr.alloc _ hm1 hm2 hst hbut, Kept.alloc _ _ _, ⟨wx.heap.size, rfl, hszx, Nat.ne_of_gt hlt9, heap_at _ _ _ rfl⟩⟩
          · intro wx f hg hd
            obtain ⟨m4, hm1, hm2, hst, hbut⟩ := hg
            obtain ⟨x, aa, ac, e49, hsm, hal, hacc⟩ : PRevV w3.heap.size (f 49) wx := hd 17 49 (by decide) rfl
            obtain ⟨rb, e10, hrb1, hrb2, hrb3⟩ : PNew σ w3.heap.size 73 #[.int .i64 0, .int .i64 0, .string ⟨#[]⟩, .string ⟨#[]⟩, .string ⟨#[]⟩, .bool false, .slice none 0 0] (f 10) wx := hd 18 10 (by decide) rfl
            rw [show dsts _ 19 = [32, 33, 34, 35, 36, 37, 38, 39, 40, 41, 42, 43, 44, 45, 46, 47, 48, 49, 10] from by kernel_rfl]
            simp only [List.map_cons, List.map_nil, puts, Act.put, e49, e10, List.drop_succ_cons, List.drop_zero]
            generalize f 32 = f32
            generalize f 33 = f33
            generalize f 34 = f34
            generalize f 35 = f35
            generalize f 36 = f36
            generalize f 37 = f37
            generalize f 38 = f38
            generalize f 39 = f39
            generalize f 40 = f40
            generalize f 41 = f41
            generalize f 42 = f42
            generalize f 43 = f43
            generalize f 44 = f44
            generalize f 45 = f45
            generalize f 46 = f46
            generalize f 47 = f47
            generalize f 48 = f48
            clear hd e49 e10
            simp only [List.setIfInBounds_toArray, List.set_cons_zero, List.set_cons_succ]
            have q0 := cell_at (i := 0) hrb3 rfl
            have q1 := cell_at (i := 1) hrb3 rfl
            have q2 := cell_at (i := 2) hrb3 rfl
            have q3 := cell_at (i := 3) hrb3 rfl
            have q4 := cell_at (i := 4) hrb3 rfl
            have q5 := cell_at (i := 5) hrb3 rfl
            have q6 := cell_at (i := 6) hrb3 rfl
            have z0 := frozen_at (i := 0) hrb3
            have z1 := frozen_at (i := 1) hrb3
            have z2 := frozen_at (i := 2) hrb3
            have z3 := frozen_at (i := 3) hrb3
            have z4 := frozen_at (i := 4) hrb3
            have z5 := frozen_at (i := 5) hrb3
            have z6 := frozen_at (i := 6) hrb3
            have j0 := heap_setCell_at wx rb 0 (.int .i64 x.no) _ _ _ hrb3
            have j1 := heap_setCell_at (wx.setCell ⟨rb, 0, none⟩ (.int .i64 x.no)) rb 1 (.int .i64 x.tm) _ _ _ j0
            have j2 := heap_setCell_at ((wx.setCell ⟨rb, 0, none⟩ (.int .i64 x.no)).setCell ⟨rb, 1, none⟩ (.int .i64 x.tm)) rb 2 (.string x.paper) _ _ _ j1
            have j3 := heap_setCell_at (((wx.setCell ⟨rb, 0, none⟩ (.int .i64 x.no)).setCell ⟨rb, 1, none⟩ (.int .i64 x.tm)).setCell ⟨rb, 2, none⟩ (.string x.paper)) rb 3 (.string x.person) _ _ _ j2
            have j4 := heap_setCell_at ((((wx.setCell ⟨rb, 0, none⟩ (.int .i64 x.no)).setCell ⟨rb, 1, none⟩ (.int .i64 x.tm)).setCell ⟨rb, 2, none⟩ (.string x.paper)).setCell ⟨rb, 3, none⟩ (.string x.person)) rb 4 (.string x.by_) _ _ _ j3
            have j5 := heap_setCell_at (((((wx.setCell ⟨rb, 0, none⟩ (.int .i64 x.no)).setCell ⟨rb, 1, none⟩ (.int .i64 x.tm)).setCell ⟨rb, 2, none⟩ (.string x.paper)).setCell ⟨rb, 3, none⟩ (.string x.person)).setCell ⟨rb, 4, none⟩ (.string x.by_)) rb 5 (.bool x.done) _ _ _ j4
            have j6 := heap_setCell_at ((((((wx.setCell ⟨rb, 0, none⟩ (.int .i64 x.no)).setCell ⟨rb, 1, none⟩ (.int .i64 x.tm)).setCell ⟨rb, 2, none⟩ (.string x.paper)).setCell ⟨rb, 3, none⟩ (.string x.person)).setCell ⟨rb, 4, none⟩ (.string x.by_)).setCell ⟨rb, 5, none⟩ (.bool x.done)) rb 6 (.slice aa x.answers.length ac) _ _ _ j5
            have hk4 : Kept (fun k => k ≠ rb) wx (((((((wx.setCell ⟨rb, 0, none⟩ (.int .i64 x.no)).setCell ⟨rb, 1, none⟩ (.int .i64 x.tm)).setCell ⟨rb, 2, none⟩ (.string x.paper)).setCell ⟨rb, 3, none⟩ (.string x.person)).setCell ⟨rb, 4, none⟩ (.string x.by_)).setCell ⟨rb, 5, none⟩ (.bool x.done)).setCell ⟨rb, 6, none⟩ (.slice aa x.answers.length ac)) := (((((((Kept.refl _ _).then_setCell _ _ (fun h => h rfl)).then_setCell _ _ (fun h => h rfl)).then_setCell _ _ (fun h => h rfl)).then_setCell _ _ (fun h => h rfl)).then_setCell _ _ (fun h => h rfl)).then_setCell _ _ (fun h => h rfl)).then_setCell _ _ (fun h => h rfl)
            have hr4 : (((((((wx.setCell ⟨rb, 0, none⟩ (.int .i64 x.no)).setCell ⟨rb, 1, none⟩ (.int .i64 x.tm)).setCell ⟨rb, 2, none⟩ (.string x.paper)).setCell ⟨rb, 3, none⟩ (.string x.person)).setCell ⟨rb, 4, none⟩ (.string x.by_)).setCell ⟨rb, 5, none⟩ (.bool x.done)).setCell ⟨rb, 6, none⟩ (.slice aa x.answers.length ac)).heap[rb]? = some (.cells (revC x aa ac) 73 (0, 0)) := by simpa using j6
            have hs4 : Str σ (((((((wx.setCell ⟨rb, 0, none⟩ (.int .i64 x.no)).setCell ⟨rb, 1, none⟩ (.int .i64 x.tm)).setCell ⟨rb, 2, none⟩ (.string x.paper)).setCell ⟨rb, 3, none⟩ (.string x.person)).setCell ⟨rb, 4, none⟩ (.string x.by_)).setCell ⟨rb, 5, none⟩ (.bool x.done)).setCell ⟨rb, 6, none⟩ (.slice aa x.answers.length ac)) m4 := (((((((hst.set _ _ (by dsimp only; omega)).set _ _ (by dsimp only; omega)).set _ _ (by dsimp only; omega)).set _ _ (by dsimp only; omega)).set _ _ (by dsimp only; omega)).set _ _ (by dsimp only; omega)).set _ _ (by dsimp only; omega))
            have hb4 : But σ.b w3 (((((((wx.setCell ⟨rb, 0, none⟩ (.int .i64 x.no)).setCell ⟨rb, 1, none⟩ (.int .i64 x.tm)).setCell ⟨rb, 2, none⟩ (.string x.paper)).setCell ⟨rb, 3, none⟩ (.string x.person)).setCell ⟨rb, 4, none⟩ (.string x.by_)).setCell ⟨rb, 5, none⟩ (.bool x.done)).setCell ⟨rb, 6, none⟩ (.slice aa x.answers.length ac)) := (((((((hbut.then_setNew _ _ hrb1).then_setNew _ _ hrb1).then_setNew _ _ hrb1).then_setNew _ _ hrb1).then_setNew _ _ hrb1).then_setNew _ _ hrb1).then_setNew _ _ hrb1)
            have HM := Lib.hid (show MkR σ rb wo x aa ac (((((((wx.setCell ⟨rb, 0, none⟩ (.int .i64 x.no)).setCell ⟨rb, 1, none⟩ (.int .i64 x.tm)).setCell ⟨rb, 2, none⟩ (.string x.paper)).setCell ⟨rb, 3, none⟩ (.string x.person)).setCell ⟨rb, 4, none⟩ (.string x.by_)).setCell ⟨rb, 5, none⟩ (.bool x.done)).setCell ⟨rb, 6, none⟩ (.slice aa x.answers.length ac)) m4 from ⟨hr4, hsm, hal, (hacc.keep RAns.ok hk4 (fun _ h => h.elim) (hacc.notType hrb3 (by decide))).base hbo3.size, hs4, hbo3.trans hb4, hlo, Nat.le_trans hbo3.size hrb1⟩)
            clear j0 j1 j2 j3 j4 j5 j6
            clear hk4 hr4 hs4 hb4 hacc hrb3 hst hbut hsm hal HST HP3
            go_upto_region 9 with fail
            generalize (((((((wx.setCell ⟨rb, 0, none⟩ (.int .i64 x.no)).setCell ⟨rb, 1, none⟩ (.int .i64 x.tm)).setCell ⟨rb, 2, none⟩ (.string x.paper)).setCell ⟨rb, 3, none⟩ (.string x.person)).setCell ⟨rb, 4, none⟩ (.string x.by_)).setCell ⟨rb, 5, none⟩ (.bool x.done)).setCell ⟨rb, 6, none⟩ (.slice aa x.answers.length ac)) = w4 at *
            clear q0 z0 q1 z1 q2 z2 q3 z3 q4 z4 q5 z5 q6 z6
            have hbr := HM.out.blk
            have r3 := cell_at (i := 3) hbr rfl
            have r4 := cell_at (i := 4) hbr rfl
            clear hbr
            have hm4n : m ≤ m4 ∧ m4 ≤ m + 3800 := by omega
            have hmm := hm4n.1
            have hmx := hm4n.2
            clear hm1 hm2 hm4n
            obtain ⟨eb, heb⟩ : ∃ b : Bool, (x.by_.toList == x.person.toList) = b := ⟨_, rfl⟩
            go_upto_if 54 with fail
            go_cut [] (fun wx => MadeR σ rb wo wx m4 10)
            case first =>
              clear heb
              cases eb with
              | false =>
                have hfin := Lib.hid (show MadeR σ rb wo _ m4 10 from ⟨_, _, _, m4, HM.out, by omega, by omega⟩)
                go_wp2_with fail
                go_meet
                exact hfin.out
              | true =>
                have g4 := frozen_at (i := 4) HM.out.blk
                have hm5 := HM.out.put 4 (.string ⟨#[]⟩) (x' := ⟨x.no, x.tm, x.paper, x.person, ⟨#[]⟩, x.done, x.answers⟩) (aa' := aa) (ac' := ac) rfl ⟨HM.out.sm.1, HM.out.sm.2.1, by show (⟨#[]⟩ : ByteArray).size ≤ 1000000; decide, HM.out.sm.2.2.2⟩ HM.out.al HM.out.ans
                have hfin := Lib.hid (show MadeR σ rb wo _ m4 10 from ⟨_, _, _, m4, hm5, by omega, by omega⟩)
                clear hm5
                go_wp2_with fail
                go_meet
                exact hfin.out
            case rest =>
              clear HM r3 r4 heb
              obtain ⟨x, aa, ac, n5, hm, hA5, hB5⟩ := hcut
              obtain ⟨wR, rfl⟩ : ∃ q : World, q = wc := ⟨_, rfl⟩
              have hst := hm.st
              go_wp2_with fail
              refine (flip_any σ n5 40 _ hst (by omega) (by omega) (by omega)).mono ?_
              rintro e w6 ⟨v, n6, rfl, ⟨fl, rfl⟩, hA6, hB6, hs6, hb6⟩
              have hm6 := hm.keep hb6 hs6
              clear hm hst hb6
              have hl6 := hs6.lt
              have hbk := hm6.blk
              have r0 := cell_at (i := 0) hbk rfl
              have r1 := cell_at (i := 1) hbk rfl
              have r2 := cell_at (i := 2) hbk rfl
              have r3 := cell_at (i := 3) hbk rfl
              have r4 := cell_at (i := 4) hbk rfl
              have r5 := cell_at (i := 5) hbk rfl
              have r6 := cell_at (i := 6) hbk rfl
              clear hbk
              go_upto_if 57 with fail
              go_cut [] (fun wx => MadeR σ rb wo wx m4 30)
              case first =>
                cases fl with
                | false =>
                  have hfin := Lib.hid (show MadeR σ rb wo _ m4 30 from ⟨_, _, _, n6, hm6, by omega, by omega⟩)
                  clear hm6 hs6
                  go_wp2_with fail
                  go_meet
                  exact hfin.out
                | true =>
                  go_wp2_with fail
                  refine (next_any σ n6 5 _ hs6 (by omega) (by omega) (by omega)).mono ?_
                  rintro e w7 ⟨v, n7, rfl, ⟨r, rfl, hr1, hr2⟩, hA7, hB7, hs7, hb7⟩
                  have hm7 := hm6.keep hb7 hs7
                  clear hm6 hs6 hb7 r0 r1 r2 r3 r4 r5 r6
                  have hr5 : r = 0 ∨ r = 1 ∨ r = 2 ∨ r = 3 ∨ r = 4 := by omega
                  clear hr1 hr2
                  have hl7 := hs7.lt
                  rcases hr5 with rfl | rfl | rfl | rfl | rfl
                  · skip
                    go_wp2_with fail
                    refine (odd10_any σ n7 1 9 _ hs7 (by omega) (by omega) (by omega) (by omega)).mono ?_
                    rintro e w8 ⟨v, n8, rfl, ⟨u, rfl, -⟩, hA8, hB8, hs8, hb8⟩
                    have hm8 := hm7.keep hb8 hs8
                    clear hm7 hs7 hb8 hs8
                    have hbk := hm8.blk
                    have fi := cell_at (i := 0) hbk rfl
                    have gi := frozen_at (i := 0) hbk
                    have hmS := hm8.put 0 (.int .i64 u) (x' := ⟨u, x.tm, x.paper, x.person, x.by_, x.done, x.answers⟩) (aa' := aa) (ac' := ac) rfl ⟨hm8.sm.1, hm8.sm.2.1, hm8.sm.2.2.1, hm8.sm.2.2.2⟩ hm8.al hm8.ans
                    have hfin := Lib.hid (show MadeR σ rb wo _ m4 30 from ⟨_, _, _, n8, hmS, by omega, by omega⟩)
                    clear hmS hm8 hbk
                    go_wp2_with fail
                    go_meet
                    exact hfin.out
                  · skip
                    go_wp2_with fail
                    refine (odd10_any σ n7 0 100 _ hs7 (by omega) (by omega) (by omega) (by omega)).mono ?_
                    rintro e w8 ⟨v, n8, rfl, ⟨u, rfl, -⟩, hA8, hB8, hs8, hb8⟩
                    have hm8 := hm7.keep hb8 hs8
                    clear hm7 hs7 hb8 hs8
                    have hbk := hm8.blk
                    have fi := cell_at (i := 1) hbk rfl
                    have gi := frozen_at (i := 1) hbk
                    have hmS := hm8.put 1 (.int .i64 u) (x' := ⟨x.no, u, x.paper, x.person, x.by_, x.done, x.answers⟩) (aa' := aa) (ac' := ac) rfl ⟨hm8.sm.1, hm8.sm.2.1, hm8.sm.2.2.1, hm8.sm.2.2.2⟩ hm8.al hm8.ans
                    have hfin := Lib.hid (show MadeR σ rb wo _ m4 30 from ⟨_, _, _, n8, hmS, by omega, by omega⟩)
                    clear hmS hm8 hbk
                    go_wp2_with fail
                    go_meet
                    exact hfin.out
                  · skip
                    go_wp2_with fail
                    refine (some10_any σ n7 _ 2 2 [⟨#[122, 101, 100]⟩, ⟨#[97, 110, 110]⟩] _ (hs7.keep (Kept.alloc _ _ _)) (by omega) (Sl.lit_strs _ (heap_at w7 _ _ rfl) rfl (by omega)) (by omega) (by omega)).mono ?_
                    rintro e w8 ⟨v, n8, rfl, ⟨u, rfl, -, hu⟩, hA8, hB8, hs8, hb8'⟩
                    have hm8 := hm7.keep ((Kept.all (Kept.alloc _ _ _)).trans hb8') hs8
                    clear hm7 hs7 hb8' hs8
                    have hbk := hm8.blk
                    have fi := cell_at (i := 3) hbk rfl
                    have gi := frozen_at (i := 3) hbk
                    have hmS := hm8.put 3 (.string u) (x' := ⟨x.no, x.tm, x.paper, u, x.by_, x.done, x.answers⟩) (aa' := aa) (ac' := ac) rfl ⟨hm8.sm.1, hu, hm8.sm.2.2.1, hm8.sm.2.2.2⟩ hm8.al hm8.ans
                    have hfin := Lib.hid (show MadeR σ rb wo _ m4 30 from ⟨_, _, _, n8, hmS, by omega, by omega⟩)
                    clear hmS hm8 hbk
                    go_wp2_with fail
                    go_meet
                    exact hfin.out
                  · skip
                    have f3 := cell_at (i := 3) hm7.blk rfl
                    have hps := hm7.sm.2.1
                    go_wp2_with fail
                    refine (some10_any σ n7 _ 2 2 [⟨#[65]⟩, x.person] _ (hs7.keep (Kept.alloc _ _ _)) (by omega) (Sl.lit_strs' [⟨#[65]⟩, x.person] (heap_at w7 _ _ rfl) rfl (by omega) (by intro s hs; simp only [List.mem_cons, List.not_mem_nil, or_false] at hs; rcases hs with rfl | rfl <;> first | exact hps | decide)) (by omega) (by omega)).mono ?_
                    rintro e w8 ⟨v, n8, rfl, ⟨u, rfl, -, hu⟩, hA8, hB8, hs8, hb8'⟩
                    have hm8 := hm7.keep ((Kept.all (Kept.alloc _ _ _)).trans hb8') hs8
                    clear hm7 hs7 hb8' hs8 f3
                    have hbk := hm8.blk
                    have fi := cell_at (i := 4) hbk rfl
                    have gi := frozen_at (i := 4) hbk
                    have hmS := hm8.put 4 (.string u) (x' := ⟨x.no, x.tm, x.paper, x.person, u, x.done, x.answers⟩) (aa' := aa) (ac' := ac) rfl ⟨hm8.sm.1, hm8.sm.2.1, hu, hm8.sm.2.2.2⟩ hm8.al hm8.ans
                    have hfin := Lib.hid (show MadeR σ rb wo _ m4 30 from ⟨_, _, _, n8, hmS, by omega, by omega⟩)
                    clear hmS hm8 hbk
                    go_wp2_with fail
                    go_meet
                    exact hfin.out
                  · skip
                    have hbk := hm7.blk
                    have fi := cell_at (i := 5) hbk rfl
                    have gi := frozen_at (i := 5) hbk
                    have hmS := hm7.put 5 (.bool true) (x' := ⟨x.no, x.tm, x.paper, x.person, x.by_, true, x.answers⟩) (aa' := aa) (ac' := ac) rfl ⟨hm7.sm.1, hm7.sm.2.1, hm7.sm.2.2.1, hm7.sm.2.2.2⟩ hm7.al hm7.ans
                    have hfin := Lib.hid (show MadeR σ rb wo _ m4 30 from ⟨_, _, _, n7, hmS, by omega, by omega⟩)
                    clear hmS hm7 hbk
                    go_wp2_with fail
                    go_meet
                    exact hfin.out
              case rest =>
                clear hm6 hs6 hA6 hB6 hA5 hB5 r0 r1 r2 r3 r4 r5 r6
                obtain ⟨x, aa, ac, nA, hm, hAA, hBA⟩ := hcut
                obtain ⟨wA, rfl⟩ : ∃ q : World, q = wc := ⟨_, rfl⟩
                have hMA := Lib.hid hm
                have hsl0 : Sl RRev 7 (fun k => k ≠ σ.b ∧ k < wA.heap.size) wA ov q xs := by
                  obtain ⟨ov', oc', he, hsl⟩ := (HAC.out.live RRev.ok).sl RRev.ok (by decide) (G := fun k => k ≠ σ.b ∧ k < wo.heap.size) (fun k h => h) (fun j hj => ⟨by have := (HAC.out.lt j hj).1; omega, (HAC.out.lt j hj).2⟩)
                  rw [← HQ.out] at he hsl
                  injection he with h1 h2 h3
                  subst h1
                  exact (hsl.keep RRev.ok (hm.bt.mono (fun k hk => hk.1))).mono RRev.ok (fun k hk => ⟨hk.1, by have := hm.bt.size; omega⟩)
                have HSL := Lib.hid (fun (wx : World) (k : But σ.b wA wx) => hsl0.keep RRev.ok (k.mono (fun k hk => hk.1)))
                have HBA := Lib.hid (fun (wx : World) (k : But σ.b wA wx) => (hwo.trans hm.bt).trans k)
                have hrn : rb ≠ σ.b := by have := hm.hs; have := hm.hp; omega
                have HRC := Lib.hid (fun (wx : World) (k : But σ.b wA wx) => k.heap hm.blk hrn)
                have hsA := hm.st
                have hlA := hm.st.lt
                have HANS := Lib.hid (show ∀ wx, But σ.b wA wx → Sl RAns 4 (fun k => k ≠ σ.b ∧ k < wA.heap.size) wx aa x.answers.length x.answers from fun wx k => by
                  obtain ⟨aa', ac', he, hsl⟩ := hm.ans.sl RAns.ok (by decide) (G := fun k => k ≠ σ.b ∧ k < wA.heap.size) (fun _ h => h.elim) (fun j hj => ⟨by have := (hm.ans.lt j hj).1; have := hm.hs; omega, (hm.ans.lt j hj).2⟩)
                  injection he with h1 h2 h3
                  subst h1
                  exact hsl.keep RAns.ok (k.mono (fun k hk => hk.1)))
                have hsmA := hm.sm
                have halA := hm.al
                have hwzA := hm.bt.size
                have HMA := Lib.hid hm
                obtain ⟨e0, e1, e2, e3, e4, e5, e6⟩ := HXB.out _ (HBA.out wA (Kept.refl _ _))
                have hbk := hm.blk
                have r0 := cell_at (i := 0) hbk rfl
                have r1 := cell_at (i := 1) hbk rfl
                have r2 := cell_at (i := 2) hbk rfl
                have r3 := cell_at (i := 3) hbk rfl
                have r4 := cell_at (i := 4) hbk rfl
                have r5 := cell_at (i := 5) hbk rfl
                have r6 := cell_at (i := 6) hbk rfl
                clear hbk hsl0 hm
                go_upto_region 22 with fail
                go_cut [97] (fun t wx => (∃ r : Bool, t = .bool r) ∧ ∃ n', Str σ wx n' ∧ nA ≤ n' ∧ n' ≤ nA + 10 ∧ But σ.b wA wx)
                case first =>
                  have HSA := Lib.hid hsA
                  have HCL := Lib.hid (fun (wx : World) (k : But σ.b wA wx) => cloneRev_any (fun k => k ≠ σ.b ∧ k < wA.heap.size) ov q oc xs wx (HSL.out wx k) (by omega))
                  have HPF := Lib.hid (fun (wx : World) (k : But σ.b wA wx) (p : Option Addr) (c : Nat) (ys : List Rev) (hs : Sl RRev 7 (fun _ => True) wx p (q + 1) ys) (hc : q + 1 ≤ c) => reviewsFault_any a0 l0 c0 a1 l1 c1 a2 l2 c2 a3 l3 c3 a4 l4 c4 s p (q + 1) c ys wx ((HIS.out wx (HBA.out wx k)).mono (fun _ _ => trivial)) hs (by omega) hc (HG.out wx (HBA.out wx k)))
                  clear hsA e0 e1 e2 e3 e4 e5 e6 r0 r1 r2 r3 r4 r5 r6
                  refine wp_region_guardL 10 3 88 true (by kernel_rfl) (by kernel_rfl) (by kernel_rfl) (GPR σ nA wA xs #[.int .i64 x.no, .int .i64 x.tm, .string x.paper, .string x.person, .string x.by_, .bool x.done, .slice aa x.answers.length ac] 6 91 8 93 9)
                    (DL [QIs (.pointer (some ⟨σ.b, 0, none⟩)), QBool, QBool, QBool, QIs (.agg #[.slice a0 l0 c0, .slice a1 l1 c1, .slice a2 l2 c2, .slice a3 l3 c3, .slice a4 l4 c4, .int .i64 s.due, .int .i64 s.reply]), QIs (.slice ov q oc), QHdr xs.length, QIs (.agg #[.int .i64 x.no, .int .i64 x.tm, .string x.paper, .string x.person, .string x.by_, .bool x.done, .slice aa x.answers.length ac]), QHd1, QAccF σ.b wA (xs ++ [x])]) (fun j w w' => j ≠ 9 → But σ.b w w') (fun _ w _ => Kept.refl _ w) (fun i j v w1 w2 hi hj hij _ hm hd => ?_) ?_ ?_ (fun v w h => h) ?_ ?_
                  · by_cases hj8 : j = 9
                    · have hz : i = 0 ∨ i = 1 ∨ i = 2 ∨ i = 3 ∨ i = 4 ∨ i = 5 ∨ i = 6 ∨ i = 7 ∨ i = 8 := by omega
                      rcases hz with rfl | rfl | rfl | rfl | rfl | rfl | rfl | rfl | rfl <;> exact hd
                    · exact DL.keep (M := But σ.b) (by simp only [List.forall_mem_cons, List.not_mem_nil, false_implies, implies_true, and_true]; exact ⟨QIs.staysB _ _, QBool.staysB _, QBool.staysB _, QBool.staysB _, QIs.staysB _ _, QIs.staysB _ _, QHdr.staysB _ _, QIs.staysB _ _, QHd1.staysB _, QAccF.staysB _ _ _ hlA⟩) i v w1 w2 (hm hj8) hd
                  · exact ⟨⟨nA, HSA.out.keep (Kept.drew _ _), Nat.le_refl _, by omega, Kept.drew _ _⟩, fun _ h => (by cases h), fun _ h => (by cases h)⟩
                  · intro i t k' L a' wx hi hd _ hta hgg _
                    have hgg2 := hgg
                    obtain ⟨⟨n', h1, h2, h3, h4⟩, -, -⟩ := hgg2
                    exact hgg.step i t undef wx hlA hta (fun _ => Kept.refl _ _) ⟨n', h1, h2, by omega, h4⟩ (fun _ _ => Or.inl rfl) (fun _ _ => Or.inl rfl) (fun h => by subst h; exact (Option.some.inj hd).symm) (fun h => by subst h; exact (Option.some.inj hd).symm)
                  · intro i o t ho hd hi k' L a' wx hk' hgg hLi hdf hta hts hoth hLd hgu hdeps
                    have hgg2 := hgg
                    obtain ⟨⟨n', hst, hna, hnb, hbt⟩, hg5, hg7⟩ := hgg2
                    have HGG := Lib.hid hgg
                    clear hgg
                    have hlx := hst.lt
                    have hszx := hbt.size
                    have hz : i = 0 ∨ i = 1 ∨ i = 2 ∨ i = 3 ∨ i = 4 ∨ i = 5 ∨ i = 6 ∨ i = 7 ∨ i = 8 ∨ i = 9 := by omega
                    rcases hz with rfl | rfl | rfl | rfl | rfl | rfl | rfl | rfl | rfl | rfl
                    · obtain rfl := Option.some.inj ho
                      obtain rfl := Option.some.inj hd
                      have e0 : a'.tmps.getD 0 undef = (.pointer (some ⟨σ.b, 0, none⟩)) := tmp_of ((hoth 0 (by decide)).trans rfl)
                      clear hoth hdeps hdf hts ho hgu hLd hLi hg5 hg7
                      refine wp_via (fun K' hK => ?_)
                      have HK := Lib.hid hK
                      clear hK
                      go_simp
                      refine HK.out _ _ ⟨_, rfl, ?_, ?_, ?_⟩
                      · exact HGG.out.step 0 85 _ _ hlA hta (fun _ => (Kept.refl _ _)) ⟨n', hst, hna, by omega, hbt⟩ (fun _ h => absurd h (by decide)) (fun _ h => absurd h (by decide)) (fun h => absurd h (by decide)) (fun h => absurd h (by decide))
                      · exact fun _ => (Kept.refl _ _)
                      · exact rfl
                    · obtain rfl := Option.some.inj ho
                      obtain rfl := Option.some.inj hd
                      have e0 : a'.tmps.getD 85 undef = (.pointer (some ⟨σ.b, 0, none⟩)) := hdeps 0 (by decide) 85 rfl (fun h => by cases h)
                      clear hoth hdeps hdf hts ho hgu hLd hLi hg5 hg7
                      refine wp_via (fun K' hK => ?_)
                      have HK := Lib.hid hK
                      clear hK
                      go_simp
                      refine (flip_any σ n' 40 _ hst (by omega) (by omega) (by omega)).mono ?_
                      rintro e w7 ⟨v, n7, rfl, ⟨r, rfl⟩, hA7, hB7, hs7, hb7⟩
                      refine HK.out _ _ ⟨_, rfl, ?_, ?_, ?_⟩
                      · exact HGG.out.step 1 86 _ _ hlA hta (fun _ => hb7) ⟨n7, hs7, by omega, by omega, hbt.trans hb7⟩ (fun _ h => absurd h (by decide)) (fun _ h => absurd h (by decide)) (fun h => absurd h (by decide)) (fun h => absurd h (by decide))
                      · exact fun _ => hb7
                      · exact ⟨r, rfl⟩
                    · obtain rfl := Option.some.inj ho
                      obtain rfl := Option.some.inj hd
                      obtain ⟨r, e0⟩ : QBool (a'.tmps.getD 86 undef) wx := hdeps 1 (by decide) 86 rfl (fun h => by cases h)
                      clear hoth hdeps hdf hts ho hgu hLd hLi hg5 hg7
                      refine wp_via (fun K' hK => ?_)
                      have HK := Lib.hid hK
                      clear hK
                      go_simp
                      refine HK.out _ _ ⟨_, rfl, ?_, ?_, ?_⟩
                      · exact HGG.out.step 2 87 _ _ hlA hta (fun _ => (Kept.refl _ _)) ⟨n', hst, hna, by omega, hbt⟩ (fun _ h => absurd h (by decide)) (fun _ h => absurd h (by decide)) (fun h => absurd h (by decide)) (fun h => absurd h (by decide))
                      · exact fun _ => (Kept.refl _ _)
                      · exact ⟨_, rfl⟩
                    · obtain rfl := Option.some.inj ho
                      obtain rfl := Option.some.inj hd
                      obtain ⟨r, e0⟩ : QBool (a'.tmps.getD 87 undef) wx := hdeps 2 (by decide) 87 rfl (fun h => by cases h)
                      clear hoth hdeps hdf hts ho hgu hLd hLi hg5 hg7
                      refine wp_via (fun K' hK => ?_)
                      have HK := Lib.hid hK
                      clear hK
                      go_simp
                      refine HK.out _ _ ⟨_, rfl, ?_, ?_, ?_⟩
                      · exact HGG.out.step 3 88 _ _ hlA hta (fun _ => (Kept.refl _ _)) ⟨n', hst, hna, by omega, hbt⟩ (fun _ h => absurd h (by decide)) (fun _ h => absurd h (by decide)) (fun h => absurd h (by decide)) (fun h => absurd h (by decide))
                      · exact fun _ => (Kept.refl _ _)
                      · exact ⟨r, rfl⟩
                    · obtain rfl := Option.some.inj ho
                      obtain rfl := Option.some.inj hd
                      obtain ⟨g0, g1, g2, g3, g4, g5, g6⟩ := HXB.out wx (HBA.out wx hbt)
                      have e0 : a'.tmps.getD 4 undef = (.pointer (some ⟨xb, 0, none⟩)) := tmp_of ((hoth 4 (by decide)).trans rfl)
                      clear hoth hdeps hdf hts ho hgu hLd hLi hg5 hg7
                      refine wp_via (fun K' hK => ?_)
                      have HK := Lib.hid hK
                      clear hK
                      go_simp
                      refine HK.out _ _ ⟨_, rfl, ?_, ?_, ?_⟩
                      · exact HGG.out.step 4 89 _ _ hlA hta (fun _ => (Kept.refl _ _)) ⟨n', hst, hna, by omega, hbt⟩ (fun _ h => absurd h (by decide)) (fun _ h => absurd h (by decide)) (fun h => absurd h (by decide)) (fun h => absurd h (by decide))
                      · exact fun _ => (Kept.refl _ _)
                      · exact rfl
                    · obtain rfl := Option.some.inj ho
                      obtain rfl := Option.some.inj hd
                      have e0 : a'.tmps.getD 7 undef = .slice ov q oc := tmp_of ((hoth 7 (by decide)).trans rfl)
                      clear hoth hdeps hdf hts ho hgu hLd hLi hg5 hg7
                      refine wp_via (fun K' hK => ?_)
                      have HK := Lib.hid hK
                      clear hK
                      go_simp
                      refine HK.out _ _ ⟨_, rfl, ?_, ?_, ?_⟩
                      · exact HGG.out.step 5 90 _ _ hlA hta (fun _ => (Kept.refl _ _)) ⟨n', hst, hna, by omega, hbt⟩ (fun _ h => absurd h (by decide)) (fun _ h => absurd h (by decide)) (fun h => absurd h (by decide)) (fun h => absurd h (by decide))
                      · exact fun _ => (Kept.refl _ _)
                      · exact rfl
                    · obtain rfl := Option.some.inj ho
                      obtain rfl := Option.some.inj hd
                      have e0 : a'.tmps.getD 90 undef = .slice ov q oc := hdeps 5 (by decide) 90 rfl (fun _ => hgu rfl)
                      clear hoth hdeps hdf hts ho hgu hLd hLi hg5 hg7
                      refine wp_via (fun K' hK => ?_)
                      have HK := Lib.hid hK
                      clear hK
                      go_simp
                      refine (HCL.out wx hbt).mono ?_
                      rintro e w7 ⟨p, c, rfl, hac, hw7⟩
                      refine HK.out _ _ ⟨_, rfl, ?_, ?_, ?_⟩
                      · exact HGG.out.step 6 91 _ _ hlA hta (fun _ => (Kept.all hw7)) ⟨n', hst.keep hw7, hna, by omega, hbt.trans (Kept.all hw7)⟩ (fun _ _ => Or.inr ⟨p, c, rfl, (hac.mono RRev.ok (fun k hk => hk.1)).base hszx⟩) (fun _ h => absurd h (by decide)) (fun _ => rfl) (fun h => absurd h (by decide))
                      · exact fun _ => (Kept.all hw7)
                      · exact ⟨p, c, rfl⟩
                    · obtain rfl := Option.some.inj ho
                      obtain rfl := Option.some.inj hd
                      have hpx := HRC.out wx hbt
                      have g0 := cell_at (i := 0) hpx rfl
                      have g1 := cell_at (i := 1) hpx rfl
                      have g2 := cell_at (i := 2) hpx rfl
                      have g3 := cell_at (i := 3) hpx rfl
                      have g4 := cell_at (i := 4) hpx rfl
                      have g5 := cell_at (i := 5) hpx rfl
                      have g6 := cell_at (i := 6) hpx rfl
                      clear hpx
                      have e0 : a'.tmps.getD 10 undef = .pointer (some ⟨rb, 0, none⟩) := tmp_of ((hoth 10 (by decide)).trans rfl)
                      clear hoth hdeps hdf hts ho hgu hLd hLi hg5 hg7
                      refine wp_via (fun K' hK => ?_)
                      have HK := Lib.hid hK
                      clear hK
                      go_simp
                      refine HK.out _ _ ⟨_, rfl, ?_, ?_, ?_⟩
                      · exact HGG.out.step 7 92 _ _ hlA hta (fun _ => (Kept.refl _ _)) ⟨n', hst, hna, by omega, hbt⟩ (fun _ h => absurd h (by decide)) (fun _ h => absurd h (by decide)) (fun h => absurd h (by decide)) (fun h => absurd h (by decide))
                      · exact fun _ => (Kept.refl _ _)
                      · exact rfl
                    · obtain rfl := Option.some.inj ho
                      obtain rfl := Option.some.inj hd
                      have e0 : a'.tmps.getD 92 undef = .agg #[.int .i64 x.no, .int .i64 x.tm, .string x.paper, .string x.person, .string x.by_, .bool x.done, .slice aa x.answers.length ac] := hdeps 7 (by decide) 92 rfl (fun _ => hgu rfl)
                      have e0' : a'.tmps[92]?.getD undef = .agg #[.int .i64 x.no, .int .i64 x.tm, .string x.paper, .string x.person, .string x.by_, .bool x.done, .slice aa x.answers.length ac] := by rw [← Array.getD_eq_getD_getElem?]; exact e0
                      clear hoth hdeps hdf hts ho hgu hLd hLi hg5 hg7
                      refine wp_via (fun K' hK => ?_)
                      have HK := Lib.hid hK
                      clear hK
                      go_simp
                      have hne : wx.heap.size ≠ σ.b := by omega
                      have hrow : QRowB σ.b #[.int .i64 x.no, .int .i64 x.tm, .string x.paper, .string x.person, .string x.by_, .bool x.done, .slice aa x.answers.length ac] 73 (.slice (some ⟨wx.heap.size, 0, none⟩) 1 1) (wx.alloc (.cells #[.int .i64 x.no, .int .i64 x.tm, .string x.paper, .string x.person, .string x.by_, .bool x.done, .slice aa x.answers.length ac] 73)) := ⟨wx.heap.size, rfl, hne, heap_at _ _ _ rfl⟩
                      refine HK.out _ _ ⟨_, rfl, ?_, ?_, ?_⟩
                      · exact HGG.out.step 8 93 _ _ hlA hta (fun _ => (Kept.alloc _ _ _)) ⟨n', hst.keep (Kept.alloc _ _ _), hna, by omega, hbt.then_alloc _⟩ (fun _ h => absurd h (by decide)) (fun _ _ => Or.inr hrow) (fun h => absurd h (by decide)) (fun _ => rfl)
                      · exact fun _ => (Kept.alloc _ _ _)
                      · exact ⟨_, rfl⟩
                    · obtain rfl := Option.some.inj ho
                      obtain rfl := Option.some.inj hd
                      obtain ⟨p5, c5, e77⟩ : QHdr xs.length (a'.tmps.getD 91 undef) wx := hdeps 6 (by decide) 91 rfl (fun _ => hgu rfl)
                      obtain ⟨b9, e79⟩ : QHd1 (a'.tmps.getD 93 undef) wx := hdeps 8 (by decide) 93 rfl (fun _ => hgu rfl)
                      have d5 := hg5 hLi (hLd 6 (by decide))
                      have d7 := hg7 hLi (hLd 8 (by decide))
                      rw [e77] at d5
                      rw [e79] at d7
                      clear hg5 hg7 hoth hdeps hdf hts ho hgu hLd hLi
                      obtain ⟨p6, c6, q6, hac⟩ := d5.resolve_left (fun h => by cases h)
                      injection q6 with q1 q2 q3
                      subst q1 q3
                      obtain ⟨b8, q7, hb9n, hb9⟩ := d7.resolve_left (fun h => by cases h)
                      injection q7 with q1 _ _
                      injection q1 with q1
                      injection q1 with q1 _ _
                      subst q1
                      clear q2
                      refine wp_via (fun K' hK => ?_)
                      have HK := Lib.hid hK
                      clear hK
                      refine op_append1 RRev.ok wx _ _ _ rfl wA.heap.size 73 (.agg #[.int .i64 0, .int .i64 0, .string ⟨#[]⟩, .string ⟨#[]⟩, .string ⟨#[]⟩, .bool false, .slice none 0 0]) 7 96 Tryz.underlying32 (by kernel_rfl) rfl (by decide) (fun k => k ≠ σ.b ∧ k < wA.heap.size) _ xs e77 hac ⟨b9, 0, none⟩ 1 [.int .i64 x.no, .int .i64 x.tm, .string x.paper, .string x.person, .string x.by_, .bool x.done, .slice aa x.answers.length ac] e79 rfl (World.news_of_block hb9) (by simp [Value.oneCell']) x ⟨aa, ac, rfl, hsmA, (HANS.out wx hbt).mono RAns.ok (fun j hj => ⟨hj, fun e => by have := (hac.lt j e).1; omega⟩)⟩ (by have := HQ.out; omega) (by decide) hszx ?_
                      intro p8 c8 w9 hac9 hg9 _
                      have hk9 : Kept (fun k => k < wA.heap.size) wx w9 := (Kept.refl _ _).grown hg9 (fun k hk => Or.inr (by have := (hac.lt k hk).1; omega))
                      have hb9' : But σ.b wA w9 := hbt.trans2 hk9 (fun i hi _ => hi)
                      have hs9 := hst.kept hk9 (fun k hk => by omega)
                      refine HK.out _ _ ⟨_, rfl, ?_, ?_, ?_⟩
                      · exact HGG.out.step 9 94 _ w9 hlA hta (fun h => absurd rfl h) ⟨n', hs9, hna, by omega, hb9'⟩ (fun h => absurd rfl h) (fun h => absurd rfl h) (fun h => absurd h (by decide)) (fun h => absurd h (by decide))
                      · exact fun h => absurd rfl h
                      · exact ⟨p8, c8, by simp, by simpa using hac9⟩
                  · intro wx f hgg hd
                    obtain ⟨a', L, ⟨n', hst, hna, hnb, hbt⟩, -, -⟩ := hgg
                    have hng : n' ≤ nA + 10 := by omega
                    obtain ⟨r, e88⟩ : QBool (f 88) wx := hd 3 88 (by decide) rfl (fun h => by cases h)
                    have h89 := hd 4 89 (by decide) rfl
                    have h94 := hd 9 94 (by decide) rfl
                    cases r with
                    | false =>
                      clear hd h89 h94
                      refine ⟨?_⟩
                      rw [show dsts _ 10 = [85, 86, 87, 88, 89, 90, 91, 92, 93, 94] from by kernel_rfl]
                      simp only [List.map_cons, List.map_nil, puts, Act.put, e88, List.drop_succ_cons, List.drop_zero]
                      generalize f 85 = f85
                      generalize f 86 = f86
                      generalize f 87 = f87
                      generalize f 89 = f89
                      generalize f 90 = f90
                      generalize f 91 = f91
                      generalize f 92 = f92
                      generalize f 93 = f93
                      generalize f 94 = f94
                      go_simp
                      go_wp2_with fail
                      go_meet
                      exact ⟨⟨_, rfl⟩, n', hst, hna, hng, hbt⟩
                    | true =>
                      have e89 : f 89 = .agg #[.slice a0 l0 c0, .slice a1 l1 c1, .slice a2 l2 c2, .slice a3 l3 c3, .slice a4 l4 c4, .int .i64 s.due, .int .i64 s.reply] := h89 (fun _ => e88)
                      obtain ⟨p8, c8, e94, hac9⟩ : QAccF σ.b wA (xs ++ [x]) (f 94) wx := h94 (fun _ => e88)
                      clear h89 h94
                      rw [List.length_append, ← HQ.out] at e94 hac9
                      simp only [List.length_cons, List.length_nil, Nat.zero_add] at e94 hac9
                      clear hd
                      refine ⟨?_⟩
                      rw [show dsts _ 10 = [85, 86, 87, 88, 89, 90, 91, 92, 93, 94] from by kernel_rfl]
                      simp only [List.map_cons, List.map_nil, puts, Act.put, e88, e89, e94, List.drop_succ_cons, List.drop_zero]
                      clear e89 e94 e88
                      generalize f 85 = f85
                      generalize f 86 = f86
                      generalize f 87 = f87
                      generalize f 90 = f90
                      generalize f 91 = f91
                      generalize f 92 = f92
                      generalize f 93 = f93
                      go_simp
                      obtain ⟨p8', c8', hv8, sl9⟩ := hac9.sl RRev.ok (by decide) (G := fun _ => True) (fun _ _ => trivial) (fun _ _ => trivial)
                      obtain ⟨p8'', c8'', hv8b, hc8⟩ := hac9.form
                      rw [List.length_append, ← HQ.out] at hv8 sl9 hv8b hc8
                      simp only [List.length_cons, List.length_nil, Nat.zero_add] at hv8 sl9 hv8b hc8
                      injection hv8 with q1 q2 q3
                      injection hv8b with q4 q5 q6
                      subst q1 q3 q6
                      clear q2 q4 q5
                      have HPX := Lib.hid (HPF.out wx hbt p8 c8 (xs ++ [x]) sl9 hc8)
                      clear hac9 sl9 hc8
                      go_wp2_with fail
                      refine HPX.out.mono ?_
                      rintro e w10 ⟨rfl, hw10⟩
                      obtain ⟨ep, hep⟩ : ∃ ep, ep = revsF s (xs ++ [x]) := ⟨_, rfl⟩
                      rw [← hep]
                      clear hep
                      go_wp2_with fail
                      go_meet
                      exact ⟨⟨_, rfl⟩, n', hst.keep hw10, hna, hng, hbt.trans (Kept.all hw10)⟩
                case rest =>
                  clear hsA e0 e1 e2 e3 e4 e5 e6 r0 r1 r2 r3 r4 r5 r6
                  obtain ⟨⟨r, rfl⟩, n5, hs5, hnE, hnF, hb5⟩ := hcut
                  obtain ⟨wB, rfl⟩ : ∃ q : World, q = wc := ⟨_, rfl⟩
                  have hmB := hMA.out.keep hb5 hs5
                  clear hs5 hb5 HMA hMA HSL HBA HRC HANS hsmA halA
                  cases r with
                  | false =>
                    have hbk := hmB.blk
                    have r0 := cell_at (i := 0) hbk rfl
                    have r1 := cell_at (i := 1) hbk rfl
                    have r2 := cell_at (i := 2) hbk rfl
                    have r3 := cell_at (i := 3) hbk rfl
                    have r4 := cell_at (i := 4) hbk rfl
                    have r5 := cell_at (i := 5) hbk rfl
                    have r6 := cell_at (i := 6) hbk rfl
                    clear hbk
                    have hacz := HAC.out.keep RRev.ok hmB.bt (fun _ h => h) (fun j hj => by have := (HAC.out.lt j hj).1; omega)
                    have hown : ∀ j, (Value.slice ov q oc).ownBlock = some j → w1.heap.size ≤ j ∧ j < wo.heap.size := fun j hj => HAC.out.lt j hj
                    have HYR := Lib.hid (show ∀ wx, All wB wx → RRev (fun k => k ≠ σ.b ∧ (Value.slice ov q oc).ownBlock ≠ some k) wx [.int .i64 x.no, .int .i64 x.tm, .string x.paper, .string x.person, .string x.by_, .bool x.done, .slice aa x.answers.length ac] x from fun wx kx => by
                      obtain ⟨aa', ac', he, hsl⟩ := hmB.ans.sl RAns.ok (by decide) (G := fun k => k ≠ σ.b ∧ (Value.slice ov q oc).ownBlock ≠ some k) (fun _ h => h.elim) (fun j hj => ⟨by have := (hmB.ans.lt j hj).1; omega, fun e => by have := (hmB.ans.lt j hj).1; have := (hown j e).2; omega⟩)
                      injection he with h1 h2 h3
                      subst h1
                      exact ⟨aa, ac, rfl, hmB.sm, hsl.keep RAns.ok kx.all⟩)
                    have hsE := hmB.st
                    have hwE := hwo.trans hmB.bt
                    have hzE := hmB.bt.size
                    clear hmB
                    go_wp2_with (at_builtin; refine wp_append1 RRev.ok _ rfl _ _ 32 rfl w1.heap.size 73 (.agg #[.int .i64 0, .int .i64 0, .string ⟨#[]⟩, .string ⟨#[]⟩, .string ⟨#[]⟩, .bool false, .slice none 0 0]) 7 96 Tryz.underlying32 (by kernel_rfl) rfl (by decide) (fun j => j ≠ σ.b) _ xs rfl (hacz.keepAll RRev.ok (Kept.alloc _ _ _)) ⟨_, 0, none⟩ 1 [.int .i64 x.no, .int .i64 x.tm, .string x.paper, .string x.person, .string x.by_, .bool x.done, .slice aa x.answers.length ac] rfl rfl (World.news_of_block (cs := #[.int .i64 x.no, .int .i64 x.tm, .string x.paper, .string x.person, .string x.by_, .bool x.done, .slice aa x.answers.length ac]) (heap_alloc_new wB _)) (by simp [Value.oneCell']) x (HYR.out _ (Kept.alloc _ _ _)) (by have := HQ.out; omega) (by decide) (by simp; omega) ?_)
                    intro p' c' w9 hacc9 hg9 _
                    rw [← HQ.out] at hacc9 ⊢
                    have hk9 : Kept (fun k => (Value.slice ov q oc).ownBlock ≠ some k) wB w9 := (Kept.all (Kept.alloc _ _ _)).grown hg9 (fun k hk => Or.inr (fun h => h hk))
                    have hbF := Lib.hid (hwE.trans2 hk9 (fun i hi _ e => by have := (hown i e).1; omega))
                    have hsF := Lib.hid (hsE.kept hk9 (fun k hk e => by have := (hown k e).1; omega))
                    have hlF := Lib.hid (show (xs ++ [x]).length ≤ k + 1 from by simp; have := HQ.out; omega)
                    clear hg9 hk9 hacz hsE hwE hown r0 r1 r2 r3 r4 r5 r6
                    go_wp2_with fail
                    go_roundw
                    case rel => exact ⟨k + 1, by omega, by go_num, _, n5, tm2, rfl, ht20, by go_num, hlF.out, hacc9, hsF.out, by omega, by omega, hbF.out⟩
                    case measure => simp [intOf]; omega
                  | true =>
                    have hbk := hmB.blk
                    have f5 := cell_at (i := 5) hbk rfl
                    have i5 := frozen_at (i := 5) hbk
                    have hmC := hmB.put 5 (.bool false) (x' := ⟨x.no, x.tm, x.paper, x.person, x.by_, false, x.answers⟩) (aa' := aa) (ac' := ac) rfl ⟨hmB.sm.1, hmB.sm.2.1, hmB.sm.2.2.1, hmB.sm.2.2.2⟩ hmB.al hmB.ans
                    have hbkC := hmC.blk
                    have f6 := cell_at (i := 6) hbkC rfl
                    have i6 := frozen_at (i := 6) hbkC
                    have hmD := hmC.put 6 (.slice none 0 0) (x' := ⟨x.no, x.tm, x.paper, x.person, x.by_, false, []⟩) (aa' := none) (ac' := 0) rfl ⟨hmB.sm.1, hmB.sm.2.1, hmB.sm.2.2.1, by show ([] : List Ans4).length ≤ 1000; decide⟩ (by show ([] : List Ans4).length ≤ 200; decide) (Acc.nil _ _ _ _ _ _)
                    clear hbk hbkC hmC hmB hlA hwzA
                    go_upto_region 24 with fail
                    generalize (wB.setCell ⟨rb, 5, none⟩ (.bool false)).setCell ⟨rb, 6, none⟩ (.slice none 0 0) = wD at *
                    clear f5 i5 f6 i6
                    obtain ⟨x2, hx2⟩ : ∃ z : Rev, z = ⟨x.no, x.tm, x.paper, x.person, x.by_, false, []⟩ := ⟨_, rfl⟩
                    rw [← hx2] at hmD
                    obtain ⟨x, aa, ac, hm⟩ : ∃ (y : Rev) (ya : Option Addr) (yc : Nat), MkR σ rb wo y ya yc wD n5 := ⟨x2, none, 0, hmD⟩
                    clear hmD hx2 x2
                    have hMA := Lib.hid hm
                    have hsl0 : Sl RRev 7 (fun k => k ≠ σ.b ∧ k < wD.heap.size) wD ov q xs := by
                      obtain ⟨ov', oc', he, hsl⟩ := (HAC.out.live RRev.ok).sl RRev.ok (by decide) (G := fun k => k ≠ σ.b ∧ k < wo.heap.size) (fun k h => h) (fun j hj => ⟨by have := (HAC.out.lt j hj).1; omega, (HAC.out.lt j hj).2⟩)
                      rw [← HQ.out] at he hsl
                      injection he with h1 h2 h3
                      subst h1
                      exact (hsl.keep RRev.ok (hm.bt.mono (fun k hk => hk.1))).mono RRev.ok (fun k hk => ⟨hk.1, by have := hm.bt.size; omega⟩)
                    have HSL := Lib.hid (fun (wx : World) (k : But σ.b wD wx) => hsl0.keep RRev.ok (k.mono (fun k hk => hk.1)))
                    have HBA := Lib.hid (fun (wx : World) (k : But σ.b wD wx) => (hwo.trans hm.bt).trans k)
                    have hrn : rb ≠ σ.b := by have := hm.hs; have := hm.hp; omega
                    have HRC := Lib.hid (fun (wx : World) (k : But σ.b wD wx) => k.heap hm.blk hrn)
                    have hsA := hm.st
                    have hlA := hm.st.lt
                    have HANS := Lib.hid (show ∀ wx, But σ.b wD wx → Sl RAns 4 (fun k => k ≠ σ.b ∧ k < wD.heap.size) wx aa x.answers.length x.answers from fun wx k => by
                      obtain ⟨aa', ac', he, hsl⟩ := hm.ans.sl RAns.ok (by decide) (G := fun k => k ≠ σ.b ∧ k < wD.heap.size) (fun _ h => h.elim) (fun j hj => ⟨by have := (hm.ans.lt j hj).1; have := hm.hs; omega, (hm.ans.lt j hj).2⟩)
                      injection he with h1 h2 h3
                      subst h1
                      exact hsl.keep RAns.ok (k.mono (fun k hk => hk.1)))
                    have hsmA := hm.sm
                    have halA := hm.al
                    have hwzA := hm.bt.size
                    have HMA := Lib.hid hm
                    obtain ⟨e0, e1, e2, e3, e4, e5, e6⟩ := HXB.out _ (HBA.out wD (Kept.refl _ _))
                    have hbk := hm.blk
                    have r0 := cell_at (i := 0) hbk rfl
                    have r1 := cell_at (i := 1) hbk rfl
                    have r2 := cell_at (i := 2) hbk rfl
                    have r3 := cell_at (i := 3) hbk rfl
                    have r4 := cell_at (i := 4) hbk rfl
                    have r5 := cell_at (i := 5) hbk rfl
                    have r6 := cell_at (i := 6) hbk rfl
                    clear hbk hsl0 hm
                    go_cut [107] (fun t wx => (∃ r : Bool, t = .bool r) ∧ ∃ n', Str σ wx n' ∧ n5 ≤ n' ∧ n' ≤ n5 + 10 ∧ But σ.b wD wx)
                    case first =>
                      have HSA := Lib.hid hsA
                      have HCL := Lib.hid (fun (wx : World) (k : But σ.b wD wx) => cloneRev_any (fun k => k ≠ σ.b ∧ k < wD.heap.size) ov q oc xs wx (HSL.out wx k) (by omega))
                      have HPF := Lib.hid (fun (wx : World) (k : But σ.b wD wx) (p : Option Addr) (c : Nat) (ys : List Rev) (hs : Sl RRev 7 (fun _ => True) wx p (q + 1) ys) (hc : q + 1 ≤ c) => reviewsFault_any a0 l0 c0 a1 l1 c1 a2 l2 c2 a3 l3 c3 a4 l4 c4 s p (q + 1) c ys wx ((HIS.out wx (HBA.out wx k)).mono (fun _ _ => trivial)) hs (by omega) hc (HG.out wx (HBA.out wx k)))
                      clear hsA e0 e1 e2 e3 e4 e5 e6 r0 r1 r2 r3 r4 r5 r6
                      refine wp_region_invA 6 (by kernel_rfl) (by kernel_rfl) (by kernel_rfl) (GPR σ n5 wD xs #[.int .i64 x.no, .int .i64 x.tm, .string x.paper, .string x.person, .string x.by_, .bool x.done, .slice aa x.answers.length ac] 2 102 4 104 5)
                        (DL [QIs (.agg #[.slice a0 l0 c0, .slice a1 l1 c1, .slice a2 l2 c2, .slice a3 l3 c3, .slice a4 l4 c4, .int .i64 s.due, .int .i64 s.reply]), QIs (.slice ov q oc), QHdr xs.length, QIs (.agg #[.int .i64 x.no, .int .i64 x.tm, .string x.paper, .string x.person, .string x.by_, .bool x.done, .slice aa x.answers.length ac]), QHd1, QAccF σ.b wD (xs ++ [x])]) (fun j w w' => j ≠ 5 → But σ.b w w') (fun i j v w1 w2 hi hj hij _ hm hd => ?_) ?_ ?_ ?_
                      · by_cases hj8 : j = 5
                        · have hz : i = 0 ∨ i = 1 ∨ i = 2 ∨ i = 3 ∨ i = 4 := by omega
                          rcases hz with rfl | rfl | rfl | rfl | rfl <;> exact hd
                        · exact DL.keep (M := But σ.b) (by simp only [List.forall_mem_cons, List.not_mem_nil, false_implies, implies_true, and_true]; exact ⟨QIs.staysB _ _, QIs.staysB _ _, QHdr.staysB _ _, QIs.staysB _ _, QHd1.staysB _, QAccF.staysB _ _ _ hlA⟩) i v w1 w2 (hm hj8) hd
                      · exact ⟨⟨n5, HSA.out.keep (Kept.drew _ _), Nat.le_refl _, by omega, Kept.drew _ _⟩, fun _ h => (by cases h), fun _ h => (by cases h)⟩
                      · intro i o t ho hd hi k' L a' wx hk' hgg hLi hdf hta hts hoth hLd hdeps
                        have hgg2 := hgg
                        obtain ⟨⟨n', hst, hna, hnb, hbt⟩, hg5, hg7⟩ := hgg2
                        have HGG := Lib.hid hgg
                        clear hgg
                        have hlx := hst.lt
                        have hszx := hbt.size
                        have hz : i = 0 ∨ i = 1 ∨ i = 2 ∨ i = 3 ∨ i = 4 ∨ i = 5 := by omega
                        rcases hz with rfl | rfl | rfl | rfl | rfl | rfl
                        · obtain rfl := Option.some.inj ho
                          obtain rfl := Option.some.inj hd
                          obtain ⟨g0, g1, g2, g3, g4, g5, g6⟩ := HXB.out wx (HBA.out wx hbt)
                          have e0 : a'.tmps.getD 4 undef = (.pointer (some ⟨xb, 0, none⟩)) := tmp_of ((hoth 4 (by decide)).trans rfl)
                          clear hoth hdeps hdf hts ho hLd hLi hg5 hg7
                          refine wp_via (fun K' hK => ?_)
                          have HK := Lib.hid hK
                          clear hK
                          go_simp
                          refine HK.out _ _ ⟨_, rfl, ?_, ?_, ?_⟩
                          · exact HGG.out.step 0 100 _ _ hlA hta (fun _ => (Kept.refl _ _)) ⟨n', hst, hna, by omega, hbt⟩ (fun _ h => absurd h (by decide)) (fun _ h => absurd h (by decide)) (fun h => absurd h (by decide)) (fun h => absurd h (by decide))
                          · exact fun _ => (Kept.refl _ _)
                          · exact rfl
                        · obtain rfl := Option.some.inj ho
                          obtain rfl := Option.some.inj hd
                          have e0 : a'.tmps.getD 7 undef = .slice ov q oc := tmp_of ((hoth 7 (by decide)).trans rfl)
                          clear hoth hdeps hdf hts ho hLd hLi hg5 hg7
                          refine wp_via (fun K' hK => ?_)
                          have HK := Lib.hid hK
                          clear hK
                          go_simp
                          refine HK.out _ _ ⟨_, rfl, ?_, ?_, ?_⟩
                          · exact HGG.out.step 1 101 _ _ hlA hta (fun _ => (Kept.refl _ _)) ⟨n', hst, hna, by omega, hbt⟩ (fun _ h => absurd h (by decide)) (fun _ h => absurd h (by decide)) (fun h => absurd h (by decide)) (fun h => absurd h (by decide))
                          · exact fun _ => (Kept.refl _ _)
                          · exact rfl
                        · obtain rfl := Option.some.inj ho
                          obtain rfl := Option.some.inj hd
                          have e0 : a'.tmps.getD 101 undef = .slice ov q oc := hdeps 1 (by decide) 101 rfl
                          clear hoth hdeps hdf hts ho hLd hLi hg5 hg7
                          refine wp_via (fun K' hK => ?_)
                          have HK := Lib.hid hK
                          clear hK
                          go_simp
                          refine (HCL.out wx hbt).mono ?_
                          rintro e w7 ⟨p, c, rfl, hac, hw7⟩
                          refine HK.out _ _ ⟨_, rfl, ?_, ?_, ?_⟩
                          · exact HGG.out.step 2 102 _ _ hlA hta (fun _ => (Kept.all hw7)) ⟨n', hst.keep hw7, hna, by omega, hbt.trans (Kept.all hw7)⟩ (fun _ _ => Or.inr ⟨p, c, rfl, (hac.mono RRev.ok (fun k hk => hk.1)).base hszx⟩) (fun _ h => absurd h (by decide)) (fun _ => rfl) (fun h => absurd h (by decide))
                          · exact fun _ => (Kept.all hw7)
                          · exact ⟨p, c, rfl⟩
                        · obtain rfl := Option.some.inj ho
                          obtain rfl := Option.some.inj hd
                          have hpx := HRC.out wx hbt
                          have g0 := cell_at (i := 0) hpx rfl
                          have g1 := cell_at (i := 1) hpx rfl
                          have g2 := cell_at (i := 2) hpx rfl
                          have g3 := cell_at (i := 3) hpx rfl
                          have g4 := cell_at (i := 4) hpx rfl
                          have g5 := cell_at (i := 5) hpx rfl
                          have g6 := cell_at (i := 6) hpx rfl
                          clear hpx
                          have e0 : a'.tmps.getD 10 undef = .pointer (some ⟨rb, 0, none⟩) := tmp_of ((hoth 10 (by decide)).trans rfl)
                          clear hoth hdeps hdf hts ho hLd hLi hg5 hg7
                          refine wp_via (fun K' hK => ?_)
                          have HK := Lib.hid hK
                          clear hK
                          go_simp
                          refine HK.out _ _ ⟨_, rfl, ?_, ?_, ?_⟩
                          · exact HGG.out.step 3 103 _ _ hlA hta (fun _ => (Kept.refl _ _)) ⟨n', hst, hna, by omega, hbt⟩ (fun _ h => absurd h (by decide)) (fun _ h => absurd h (by decide)) (fun h => absurd h (by decide)) (fun h => absurd h (by decide))
                          · exact fun _ => (Kept.refl _ _)
                          · exact rfl
                        · obtain rfl := Option.some.inj ho
                          obtain rfl := Option.some.inj hd
                          have e0 : a'.tmps.getD 103 undef = .agg #[.int .i64 x.no, .int .i64 x.tm, .string x.paper, .string x.person, .string x.by_, .bool x.done, .slice aa x.answers.length ac] := hdeps 3 (by decide) 103 rfl
                          have e0' : a'.tmps[103]?.getD undef = .agg #[.int .i64 x.no, .int .i64 x.tm, .string x.paper, .string x.person, .string x.by_, .bool x.done, .slice aa x.answers.length ac] := by rw [← Array.getD_eq_getD_getElem?]; exact e0
                          clear hoth hdeps hdf hts ho hLd hLi hg5 hg7
                          refine wp_via (fun K' hK => ?_)
                          have HK := Lib.hid hK
                          clear hK
                          go_simp
                          have hne : wx.heap.size ≠ σ.b := by omega
                          have hrow : QRowB σ.b #[.int .i64 x.no, .int .i64 x.tm, .string x.paper, .string x.person, .string x.by_, .bool x.done, .slice aa x.answers.length ac] 73 (.slice (some ⟨wx.heap.size, 0, none⟩) 1 1) (wx.alloc (.cells #[.int .i64 x.no, .int .i64 x.tm, .string x.paper, .string x.person, .string x.by_, .bool x.done, .slice aa x.answers.length ac] 73)) := ⟨wx.heap.size, rfl, hne, heap_at _ _ _ rfl⟩
                          refine HK.out _ _ ⟨_, rfl, ?_, ?_, ?_⟩
                          · exact HGG.out.step 4 104 _ _ hlA hta (fun _ => (Kept.alloc _ _ _)) ⟨n', hst.keep (Kept.alloc _ _ _), hna, by omega, hbt.then_alloc _⟩ (fun _ h => absurd h (by decide)) (fun _ _ => Or.inr hrow) (fun h => absurd h (by decide)) (fun _ => rfl)
                          · exact fun _ => (Kept.alloc _ _ _)
                          · exact ⟨_, rfl⟩
                        · obtain rfl := Option.some.inj ho
                          obtain rfl := Option.some.inj hd
                          obtain ⟨p5, c5, e77⟩ : QHdr xs.length (a'.tmps.getD 102 undef) wx := hdeps 2 (by decide) 102 rfl
                          obtain ⟨b9, e79⟩ : QHd1 (a'.tmps.getD 104 undef) wx := hdeps 4 (by decide) 104 rfl
                          have d5 := hg5 hLi (hLd 2 (by decide))
                          have d7 := hg7 hLi (hLd 4 (by decide))
                          rw [e77] at d5
                          rw [e79] at d7
                          clear hg5 hg7 hoth hdeps hdf hts ho hLd hLi
                          obtain ⟨p6, c6, q6, hac⟩ := d5.resolve_left (fun h => by cases h)
                          injection q6 with q1 q2 q3
                          subst q1 q3
                          obtain ⟨b8, q7, hb9n, hb9⟩ := d7.resolve_left (fun h => by cases h)
                          injection q7 with q1 _ _
                          injection q1 with q1
                          injection q1 with q1 _ _
                          subst q1
                          clear q2
                          refine wp_via (fun K' hK => ?_)
                          have HK := Lib.hid hK
                          clear hK
                          refine op_append1 RRev.ok wx _ _ _ rfl wD.heap.size 73 (.agg #[.int .i64 0, .int .i64 0, .string ⟨#[]⟩, .string ⟨#[]⟩, .string ⟨#[]⟩, .bool false, .slice none 0 0]) 7 96 Tryz.underlying32 (by kernel_rfl) rfl (by decide) (fun k => k ≠ σ.b ∧ k < wD.heap.size) _ xs e77 hac ⟨b9, 0, none⟩ 1 [.int .i64 x.no, .int .i64 x.tm, .string x.paper, .string x.person, .string x.by_, .bool x.done, .slice aa x.answers.length ac] e79 rfl (World.news_of_block hb9) (by simp [Value.oneCell']) x ⟨aa, ac, rfl, hsmA, (HANS.out wx hbt).mono RAns.ok (fun j hj => ⟨hj, fun e => by have := (hac.lt j e).1; omega⟩)⟩ (by have := HQ.out; omega) (by decide) hszx ?_
                          intro p8 c8 w9 hac9 hg9 _
                          have hk9 : Kept (fun k => k < wD.heap.size) wx w9 := (Kept.refl _ _).grown hg9 (fun k hk => Or.inr (by have := (hac.lt k hk).1; omega))
                          have hb9' : But σ.b wD w9 := hbt.trans2 hk9 (fun i hi _ => hi)
                          have hs9 := hst.kept hk9 (fun k hk => by omega)
                          refine HK.out _ _ ⟨_, rfl, ?_, ?_, ?_⟩
                          · exact HGG.out.step 5 105 _ w9 hlA hta (fun h => absurd rfl h) ⟨n', hs9, hna, by omega, hb9'⟩ (fun h => absurd rfl h) (fun h => absurd rfl h) (fun h => absurd h (by decide)) (fun h => absurd h (by decide))
                          · exact fun h => absurd rfl h
                          · exact ⟨p8, c8, by simp, by simpa using hac9⟩
                      · intro wx f hgg hd
                        obtain ⟨a', L, ⟨n', hst, hna, hnb, hbt⟩, -, -⟩ := hgg
                        have hng : n' ≤ n5 + 10 := by omega
                        have e89 : f 100 = .agg #[.slice a0 l0 c0, .slice a1 l1 c1, .slice a2 l2 c2, .slice a3 l3 c3, .slice a4 l4 c4, .int .i64 s.due, .int .i64 s.reply] := hd 0 100 (by decide) rfl
                        obtain ⟨p8, c8, e94, hac9⟩ : QAccF σ.b wD (xs ++ [x]) (f 105) wx := hd 5 105 (by decide) rfl
                        rw [List.length_append, ← HQ.out] at e94 hac9
                        simp only [List.length_cons, List.length_nil, Nat.zero_add] at e94 hac9
                        clear hd
                        refine ⟨?_⟩
                        rw [show dsts _ 6 = [100, 101, 102, 103, 104, 105] from by kernel_rfl]
                        simp only [List.map_cons, List.map_nil, puts, Act.put, e89, e94, List.drop_succ_cons, List.drop_zero]
                        clear e89 e94
                        generalize f 101 = f101
                        generalize f 102 = f102
                        generalize f 103 = f103
                        generalize f 104 = f104
                        go_simp
                        obtain ⟨p8', c8', hv8, sl9⟩ := hac9.sl RRev.ok (by decide) (G := fun _ => True) (fun _ _ => trivial) (fun _ _ => trivial)
                        obtain ⟨p8'', c8'', hv8b, hc8⟩ := hac9.form
                        rw [List.length_append, ← HQ.out] at hv8 sl9 hv8b hc8
                        simp only [List.length_cons, List.length_nil, Nat.zero_add] at hv8 sl9 hv8b hc8
                        injection hv8 with q1 q2 q3
                        injection hv8b with q4 q5 q6
                        subst q1 q3 q6
                        clear q2 q4 q5
                        have HPX := Lib.hid (HPF.out wx hbt p8 c8 (xs ++ [x]) sl9 hc8)
                        clear hac9 sl9 hc8
                        go_wp2_with fail
                        refine HPX.out.mono ?_
                        rintro e w10 ⟨rfl, hw10⟩
                        obtain ⟨ep, hep⟩ : ∃ ep, ep = revsF s (xs ++ [x]) := ⟨_, rfl⟩
                        rw [← hep]
                        clear hep
                        go_wp2_with fail
                        go_meet
                        exact ⟨⟨_, rfl⟩, n', hst.keep hw10, hna, hng, hbt.trans (Kept.all hw10)⟩
                    case rest =>
                      clear hsA e0 e1 e2 e3 e4 e5 e6 r0 r1 r2 r3 r4 r5 r6
                      obtain ⟨⟨r, rfl⟩, n6, hs6, hnG, hnH, hb6⟩ := hcut
                      obtain ⟨wB2, rfl⟩ : ∃ q : World, q = wc := ⟨_, rfl⟩
                      have hmB := hMA.out.keep hb6 hs6
                      clear hs6 hb6 HMA hMA HSL HBA HRC HANS hsmA halA
                      cases r with
                      | true =>
                        have hacE := Lib.hid (HAC.out.keep RRev.ok hmB.bt (fun _ h => h) (fun j hj => by have := (HAC.out.lt j hj).1; omega))
                        have hwE := Lib.hid (hwo.trans hmB.bt)
                        have hsE := Lib.hid hmB.st
                        clear hmB
                        go_wp2_with fail
                        go_roundw
                        case rel => exact ⟨k + 1, by omega, by go_num, xs, n6, tm2, rfl, ht20, by go_num, by have := HQ.out; omega, hacE.out, hsE.out, by omega, by omega, hwE.out⟩
                        case measure => simp [intOf]; omega
                      | false =>
                        have hbk := hmB.blk
                        have r0 := cell_at (i := 0) hbk rfl
                        have r1 := cell_at (i := 1) hbk rfl
                        have r2 := cell_at (i := 2) hbk rfl
                        have r3 := cell_at (i := 3) hbk rfl
                        have r4 := cell_at (i := 4) hbk rfl
                        have r5 := cell_at (i := 5) hbk rfl
                        have r6 := cell_at (i := 6) hbk rfl
                        clear hbk
                        have hacz := HAC.out.keep RRev.ok hmB.bt (fun _ h => h) (fun j hj => by have := (HAC.out.lt j hj).1; omega)
                        have hown : ∀ j, (Value.slice ov q oc).ownBlock = some j → w1.heap.size ≤ j ∧ j < wo.heap.size := fun j hj => HAC.out.lt j hj
                        have HYR := Lib.hid (show ∀ wx, All wB2 wx → RRev (fun k => k ≠ σ.b ∧ (Value.slice ov q oc).ownBlock ≠ some k) wx [.int .i64 x.no, .int .i64 x.tm, .string x.paper, .string x.person, .string x.by_, .bool x.done, .slice aa x.answers.length ac] x from fun wx kx => by
                          obtain ⟨aa', ac', he, hsl⟩ := hmB.ans.sl RAns.ok (by decide) (G := fun k => k ≠ σ.b ∧ (Value.slice ov q oc).ownBlock ≠ some k) (fun _ h => h.elim) (fun j hj => ⟨by have := (hmB.ans.lt j hj).1; omega, fun e => by have := (hmB.ans.lt j hj).1; have := (hown j e).2; omega⟩)
                          injection he with h1 h2 h3
                          subst h1
                          exact ⟨aa, ac, rfl, hmB.sm, hsl.keep RAns.ok kx.all⟩)
                        have hsE := hmB.st
                        have hwE := hwo.trans hmB.bt
                        have hzE := hmB.bt.size
                        clear hmB
                        go_wp2_with (at_builtin; refine wp_append1 RRev.ok _ rfl _ _ 32 rfl w1.heap.size 73 (.agg #[.int .i64 0, .int .i64 0, .string ⟨#[]⟩, .string ⟨#[]⟩, .string ⟨#[]⟩, .bool false, .slice none 0 0]) 7 96 Tryz.underlying32 (by kernel_rfl) rfl (by decide) (fun j => j ≠ σ.b) _ xs rfl (hacz.keepAll RRev.ok (Kept.alloc _ _ _)) ⟨_, 0, none⟩ 1 [.int .i64 x.no, .int .i64 x.tm, .string x.paper, .string x.person, .string x.by_, .bool x.done, .slice aa x.answers.length ac] rfl rfl (World.news_of_block (cs := #[.int .i64 x.no, .int .i64 x.tm, .string x.paper, .string x.person, .string x.by_, .bool x.done, .slice aa x.answers.length ac]) (heap_alloc_new wB2 _)) (by simp [Value.oneCell']) x (HYR.out _ (Kept.alloc _ _ _)) (by have := HQ.out; omega) (by decide) (by simp; omega) ?_)
                        intro p' c' w9 hacc9 hg9 _
                        rw [← HQ.out] at hacc9 ⊢
                        have hk9 : Kept (fun k => (Value.slice ov q oc).ownBlock ≠ some k) wB2 w9 := (Kept.all (Kept.alloc _ _ _)).grown hg9 (fun k hk => Or.inr (fun h => h hk))
                        have hbF := Lib.hid (hwE.trans2 hk9 (fun i hi _ e => by have := (hown i e).1; omega))
                        have hsF := Lib.hid (hsE.kept hk9 (fun k hk e => by have := (hown k e).1; omega))
                        have hlF := Lib.hid (show (xs ++ [x]).length ≤ k + 1 from by simp; have := HQ.out; omega)
                        clear hg9 hk9 hacz hsE hwE hown r0 r1 r2 r3 r4 r5 r6
                        go_wp2_with fail
                        go_roundw
                        case rel => exact ⟨k + 1, by omega, by go_num, _, n6, tm2, rfl, ht20, by go_num, hlF.out, hacc9, hsF.out, by omega, by omega, hbF.out⟩
                        case measure => simp [intOf]; omega
end Go.Proofs.YtjbaijgdkkccbaaGreatDoor
