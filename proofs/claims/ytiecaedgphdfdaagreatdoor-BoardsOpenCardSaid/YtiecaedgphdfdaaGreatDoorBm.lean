/- The generator Board. -/
import Derived.Test.YtiecaedgphdfdaaGreatDoorBl
import Derived.Test.YtiecaedgphdfdaaGreatDoorBn
import Derived.Test.YtiecaedgphdfdaaGreatDoorBo
import Derived.Deep.DrawnRows
namespace Go.Proofs.YtiecaedgphdfdaaGreatDoor
open Go.RowKit

/-- The board lies in block bb, and all is well. -/
def GoodB (σ : St) (n : Nat) (w : World) (rb bb : Nat) (wx : World) : Prop :=
  ∃ (v0 v1 v2 v3 : Value) (b : Board4) (n' : Nat), wx.heap[bb]? = some (.cells #[v0, v1, v2, v3] 85 (0, 0)) ∧ b.pairs.length ≤ 60 ∧ b.barred.length ≤ 60 ∧ b.heads.length ≤ 60 ∧ b.turns.length ≤ 60 ∧
    Acc RPair 2 95 (fun _ => False) w.heap.size wx v0 b.pairs ∧ Acc RPair 2 95 (fun _ => False) w.heap.size wx v1 b.barred ∧ Acc RStr 1 9 (fun _ => False) w.heap.size wx v2 b.heads ∧ Acc RTurn 3 152 (fun _ => False) w.heap.size wx v3 b.turns ∧
    (∀ k, v0.ownBlock = some k → v1.ownBlock ≠ some k) ∧ Str σ wx n' ∧ n ≤ n' ∧ n' ≤ n + 250 ∧ But σ.b w wx ∧ wx.heap[rb]? = some (.cells #[.slice none 0 0, .slice none 0 0, .slice none 0 0, .slice none 0 0] 85 (0, 0))

/-- Slices of different types lie apart. -/
theorem Acc.apart {α β : Type} {R : Rel α} {R' : Rel β} {sz sz' : Nat} {T T' : TypeId} {F F' : Nat → Prop} {B B' : Nat} {w : World} {v v' : Value} {xs : List α} {ys : List β} (h : Acc R sz T F B w v xs) (h' : Acc R' sz' T' F' B' w v' ys) (hne : T' ≠ T) : ∀ k, v.ownBlock = some k → v'.ownBlock ≠ some k := by
  intro k h1 h2
  obtain ⟨cells, ho, -⟩ := h
  rcases ho.2 with ⟨rfl, -⟩ | ⟨g, cap, cur, rfl, -, hg, -⟩
  · cases h1
  · cases h1
    exact h'.notType hg hne _ h2 rfl

set_option maxRecDepth 100000 in
set_option maxHeartbeats 12800000 in
theorem board_any (σ : St) (n : Nat) (w : World) (hs : Str σ w n) (hn : n ≤ 4611686018427100000) :
    Calls Tryz.prog 40 #[.pointer (some ⟨σ.b, 0, none⟩)] w (StPost σ n 300 w (IsBoard 60 w.heap.size)) := by
  have hlt := hs.lt
  go_enter Tryz.func40, Tryz.ntmps40
  have hs1 := hs.keep (Kept.alloc (fun _ => True) w (.cells #[.slice none 0 0, .slice none 0 0, .slice none 0 0, .slice none 0 0] 85))
  have k0 := heap_at w (.cells #[.slice none 0 0, .slice none 0 0, .slice none 0 0, .slice none 0 0] 85) _ rfl
  have hw1 : But σ.b w (w.alloc (.cells #[.slice none 0 0, .slice none 0 0, .slice none 0 0, .slice none 0 0] 85)) := Kept.alloc _ _ _
  have HSZ := Lib.hid (show w.heap.size + 1 = (w.alloc (.cells #[.slice none 0 0, .slice none 0 0, .slice none 0 0, .slice none 0 0] 85)).heap.size by simp)
  obtain ⟨rb, hrbe⟩ : ∃ b, b = w.heap.size := ⟨_, rfl⟩
  have Hrb := Lib.hid hrbe
  rw [← hrbe] at k0
  have hrw : w.heap.size ≤ rb := by omega
  have hσr : σ.b < rb := by omega
  clear hs hrbe
  go_wp2_with fail
  simp only [← Hrb.out]
  clear Hrb
  have hrb1 : rb < (w.alloc (.cells #[.slice none 0 0, .slice none 0 0, .slice none 0 0, .slice none 0 0] 85)).heap.size := (Array.getElem?_eq_some_iff.1 k0).1
  have hsw : w.heap.size ≤ (w.alloc (.cells #[.slice none 0 0, .slice none 0 0, .slice none 0 0, .slice none 0 0] 85)).heap.size := by have := HSZ.out; omega
  clear HSZ
  generalize w.alloc (.cells #[.slice none 0 0, .slice none 0 0, .slice none 0 0, .slice none 0 0] 85) = w0 at *
  refine (rightBoard_any σ n _ hs1 (by omega)).mono ?_
  rintro e w1 ⟨v, n1, rfl, ⟨v0, v1, v2, v3, b, rfl, m0, m1, m2, m3, A0, A1, A2, A3, hdis⟩, hn1, hn2, hs2, hb1⟩
  replace A0 := A0.base hsw
  replace A1 := A1.base hsw
  replace A2 := A2.base hsw
  replace A3 := A3.base hsw
  have hsz1 := hb1.size
  obtain ⟨a0, c0, rfl, -⟩ := A0.form
  obtain ⟨l0, hl0⟩ : ∃ l, l = b.pairs.length := ⟨_, rfl⟩
  rw [← hl0] at A0 m0 hdis ⊢
  have HL0 := Lib.hid hl0
  clear hl0
  obtain ⟨a1, c1, rfl, -⟩ := A1.form
  obtain ⟨l1, hl1⟩ : ∃ l, l = b.barred.length := ⟨_, rfl⟩
  rw [← hl1] at A1 m1 hdis ⊢
  have HL1 := Lib.hid hl1
  clear hl1
  obtain ⟨a2, c2, rfl, -⟩ := A2.form
  obtain ⟨l2, hl2⟩ : ∃ l, l = b.heads.length := ⟨_, rfl⟩
  rw [← hl2] at A2 m2 ⊢
  have HL2 := Lib.hid hl2
  clear hl2
  obtain ⟨a3, c3, rfl, -⟩ := A3.form
  obtain ⟨l3, hl3⟩ : ∃ l, l = b.turns.length := ⟨_, rfl⟩
  rw [← hl3] at A3 m3 ⊢
  have HL3 := Lib.hid hl3
  clear hl3
  have hbb2 := heap_at w1 (.cells #[.slice a0 l0 c0, .slice a1 l1 c1, .slice a2 l2 c2, .slice a3 l3 c3] 85) _ rfl
  have hrb2 := heap_old (.cells #[.slice a0 l0 c0, .slice a1 l1 c1, .slice a2 l2 c2, .slice a3 l3 c3] 85) (hb1.heap k0 (by omega))
  have hka : All w1 (w1.alloc (.cells #[.slice a0 l0 c0, .slice a1 l1 c1, .slice a2 l2 c2, .slice a3 l3 c3] 85)) := Kept.alloc _ _ _
  have hs3 := hs2.keep hka
  have hw2 := (hw1.trans hb1).then_alloc (.cells #[.slice a0 l0 c0, .slice a1 l1 c1, .slice a2 l2 c2, .slice a3 l3 c3] 85)
  replace A0 := A0.keepAll RPair.ok hka
  replace A1 := A1.keepAll RPair.ok hka
  replace A2 := A2.keepAll RStr.ok hka
  replace A3 := A3.keepAll RTurn.ok hka
  obtain ⟨bb, hbbe⟩ : ∃ b, b = w1.heap.size := ⟨_, rfl⟩
  have Hbb := Lib.hid hbbe
  rw [← hbbe] at hbb2
  have hrbb : rb < bb := by omega
  have hσb : σ.b < bb := by omega
  clear hs1 hw1 hs2 hb1 hka hbbe hsz1 k0 hrb1
  go_wp2_with fail
  simp only [← Hbb.out]
  clear Hbb
  generalize w1.alloc (.cells #[.slice a0 l0 c0, .slice a1 l1 c1, .slice a2 l2 c2, .slice a3 l3 c3] 85) = w2 at *
  have hlb2 : bb < w2.heap.size := (Array.getElem?_eq_some_iff.1 hbb2).1
  refine (flip_any σ n1 12 _ hs3 (by omega) (by omega) (by omega)).mono ?_
  rintro e w3 ⟨v, n3, rfl, ⟨fb, rfl⟩, hn3, hn4, hs4, hb3⟩
  have hbb3 := hb3.heap hbb2 (by omega)
  have hrb3 := hb3.heap hrb2 (by omega)
  have hw3 := hw2.trans hb3
  replace A0 := A0.keep RPair.ok hb3 (fun _ h => h.elim) (fun k hk => by have := (A0.lt k hk).1; omega)
  replace A1 := A1.keep RPair.ok hb3 (fun _ h => h.elim) (fun k hk => by have := (A1.lt k hk).1; omega)
  replace A2 := A2.keep RStr.ok hb3 (fun _ h => h.elim) (fun k hk => by have := (A2.lt k hk).1; omega)
  replace A3 := A3.keep RTurn.ok hb3 (fun _ h => h.elim) (fun k hk => by have := (A3.lt k hk).1; omega)
  clear hb3 hs3 hw2 hbb2 hrb2 hlb2
  go_upto_if 7 with fail
  go_cut [9] (fun _ wx => GoodB σ n w rb bb wx)
  case first =>
    cases fb with
    | false =>
      have hG := Lib.hid (show GoodB σ n w rb bb w3 from ⟨_, _, _, _, b, n3, hbb3, by have := HL0.out; omega, by have := HL1.out; omega, by have := HL2.out; omega, by have := HL3.out; omega, A0, A1, A2, A3, hdis, hs4, by omega, by omega, hw3, hrb3⟩)
      clear A0 A1 A2 A3 hbb3 hrb3 hs4 hw3
      go_wp2_with fail
      go_meet
      exact hG.out
    | true =>
      go_wp2_with fail
      refine (next_any σ n3 4 _ hs4 (by omega) (by omega) (by omega)).mono ?_
      rintro e w4 ⟨v, n4, rfl, ⟨r, rfl, hr1, hr2⟩, hn5, hn6, hs5, hb4⟩
      have hbb4 := hb4.heap hbb3 (by omega)
      have hrb4 := hb4.heap hrb3 (by omega)
      have hw4 := hw3.trans hb4
      replace A0 := A0.keep RPair.ok hb4 (fun _ h => h.elim) (fun k hk => by have := (A0.lt k hk).1; omega)
      replace A1 := A1.keep RPair.ok hb4 (fun _ h => h.elim) (fun k hk => by have := (A1.lt k hk).1; omega)
      replace A2 := A2.keep RStr.ok hb4 (fun _ h => h.elim) (fun k hk => by have := (A2.lt k hk).1; omega)
      replace A3 := A3.keep RTurn.ok hb4 (fun _ h => h.elim) (fun k hk => by have := (A3.lt k hk).1; omega)
      clear hb4 hs4 hw3 hbb3 hrb3
      have hlb4 : bb < w4.heap.size := (Array.getElem?_eq_some_iff.1 hbb4).1
      have hwz4 := hw4.size
      have hlt4 := hs5.lt
      have hnn1 : n ≤ n4 := by omega
      have hnn2 : n4 ≤ n + 210 := by omega
      clear hn1 hn2 hn3 hn4 hn5 hn6
      have T0 := Lib.hid (A0.notType hbb4 (by decide))
      have T1 := Lib.hid (A1.notType hbb4 (by decide))
      have T2 := Lib.hid (A2.notType hbb4 (by decide))
      have T3 := Lib.hid (A3.notType hbb4 (by decide))
      have U0 := Lib.hid (A0.notType hrb4 (by decide))
      have U1 := Lib.hid (A1.notType hrb4 (by decide))
      have U2 := Lib.hid (A2.notType hrb4 (by decide))
      have U3 := Lib.hid (A3.notType hrb4 (by decide))
      have hr4 : r = 0 ∨ r = 1 ∨ r = 2 ∨ r = 3 := by omega
      clear hr1 hr2
      rcases hr4 with rfl | rfl | rfl | rfl
      · skip
        have hla : ((w4.alloc (.cells #[.string ⟨#[112, 122]⟩, .string ⟨#[65]⟩, .string ⟨#[112, 97]⟩] 9)).drew).heap[w4.heap.size]? = some (.cells #[.string ⟨#[112, 122]⟩, .string ⟨#[65]⟩, .string ⟨#[112, 97]⟩] 9 (0, 0)) := heap_at w4 _ _ rfl
        have hpk : Sl RStr 1 (fun k => k ≠ σ.b) ((w4.alloc (.cells #[.string ⟨#[112, 122]⟩, .string ⟨#[65]⟩, .string ⟨#[112, 97]⟩] 9)).drew) (some ⟨w4.heap.size, 0, none⟩) 3 [⟨#[112, 122]⟩, ⟨#[65]⟩, ⟨#[112, 97]⟩] := Sl.lit_strs [⟨#[112, 122]⟩, ⟨#[65]⟩, ⟨#[112, 97]⟩] hla rfl (by omega)
        have hkd : All w4 ((w4.alloc (.cells #[.string ⟨#[112, 122]⟩, .string ⟨#[65]⟩, .string ⟨#[112, 97]⟩] 9)).drew) := (Kept.alloc _ _ _).then_drew
        have hsd : Str σ ((w4.alloc (.cells #[.string ⟨#[112, 122]⟩, .string ⟨#[65]⟩, .string ⟨#[112, 97]⟩] 9)).drew) n4 := hs5.keep hkd
        have e0 := cell_at (i := 0) hbb4 rfl
        have d0 := hkd.cell e0 trivial
        have hplb : b.pairs.length + 1 ≤ 1000000000 := by have := HL0.out; omega
        clear hla
        go_wp2_with fail
        go_region_law (first
          | (refine step_append1 RPair.ok _ (by rfl) _ _ 82 (by rfl) w.heap.size 95 (.agg #[.string ⟨#[]⟩, .string ⟨#[]⟩]) 2 32 Tryz.underlying82 (by kernel_rfl) rfl (by decide) (fun _ => False) (.slice a0 l0 c0) b.pairs (by rfl) (X0.keepAll RPair.ok (by repeat (first | exact Kept.refl _ _ | refine Kept.then_drew ?_ | refine Kept.then_drewN ?_ _ | refine Kept.then_alloc ?_ _))) ⟨w6.heap.size, 0, none⟩ 1 [.string y, .string ⟨#[98, 111, 98]⟩] (by rfl) rfl (World.news_of_block (cs := #[.string y, .string ⟨#[98, 111, 98]⟩]) (t := 95) (fr := (0, 0)) (heap_alloc_new w6 _)) (by simp [Value.oneCell']) (Pair2.mk y ⟨#[98, 111, 98]⟩ hyz (by decide)) rfl hplb (by decide) (by have := hb1.size; simp; omega) ?_; intro p8 c8 w8 hacc8 hgrow hat8; have hk8 : Kept (fun k => (Value.slice a0 l0 c0).ownBlock ≠ some k) w6 w8 := (Kept.grown (Kept.all (((by repeat (first | exact Kept.refl _ _ | refine Kept.then_drew ?_ | refine Kept.then_drewN ?_ _ | refine Kept.then_alloc ?_ _))) : All w6 _)) hgrow (fun k hk => Or.inr (fun h => h hk))); have hbb8 := hk8.heap hbb6 (fun e => T0.out bb e rfl); have f8 := cell_at (i := 0) hbb8 rfl; have z8 := frozen_at (i := 0) hbb8)
          | (go_simp; go_at_call 52; refine (some10_any σ n4 _ 3 3 [⟨#[112, 122]⟩, ⟨#[65]⟩, ⟨#[112, 97]⟩] _ hsd (by omega) hpk (by omega) (by omega)).mono ?_; rintro e w6 ⟨v, n6, rfl, ⟨y, rfl, -, hyz⟩, hn7, hn8, hs6, hb6⟩; have hb1 : But σ.b w4 w6 := (Kept.all hkd).trans hb6; have hbb6 := hb1.heap hbb4 (by omega); have hlb6 : bb < w6.heap.size := (Array.getElem?_eq_some_iff.1 hbb6).1; have e6 := cell_at (i := 0) hbb6 rfl; have X0 := A0.keep RPair.ok hb1 (fun _ h => h.elim) (fun k hk => by have := (A0.lt k hk).1; omega)))
        all_goals
          have hkr := Lib.hid (fun k (hk : (Value.slice a0 l0 c0).ownBlock = some k) => X0.lt k hk)
          have X1 := A1.keep RPair.ok hb1 (fun _ h => h.elim) (fun k hk => by have := (A1.lt k hk).1; omega)
          have X2 := A2.keep RStr.ok hb1 (fun _ h => h.elim) (fun k hk => by have := (A2.lt k hk).1; omega)
          have X3 := A3.keep RTurn.ok hb1 (fun _ h => h.elim) (fun k hk => by have := (A3.lt k hk).1; omega)
          have hbut8 : But σ.b w w8 := (hw4.trans hb1).trans2 hk8 (fun i hi _ e => by have := hkr.out i e; omega)
          have hs8 := hs6.kept hk8 (fun k hk e => by have := hkr.out k e; omega)
          have hrb8 := hk8.heap (hb1.heap hrb4 (by omega)) (fun e => U0.out rb e rfl)
          have Y1 := X1.keep RPair.ok hk8 (fun _ h => h.elim) (fun k h1 h2 => hdis k h2 h1)
          have Y2 := X2.keep RStr.ok hk8 (fun _ h => h.elim) (X2.apart X0 (by decide))
          have Y3 := X3.keep RTurn.ok hk8 (fun _ h => h.elim) (X3.apart X0 (by decide))
          have hset : Kept (fun k => k ≠ bb) w8 (w8.setCell ⟨bb, 0, none⟩ (.slice p8 (b.pairs.length + 1) c8)) := Kept.setCell w8 _ _ (by simp)
          have Z1 := Lib.hid (Y1.keep RPair.ok hset (fun _ h => h.elim) T1.out)
          have Z2 := Lib.hid (Y2.keep RStr.ok hset (fun _ h => h.elim) T2.out)
          have Z3 := Lib.hid (Y3.keep RTurn.ok hset (fun _ h => h.elim) T3.out)
          have Z0 := Lib.hid (hacc8.keep RPair.ok hset (fun _ h => h.elim) (hacc8.notType hbb8 (by decide)))
          have hbb9 := heap_setCell_at w8 bb 0 (.slice p8 (b.pairs.length + 1) c8) _ _ _ hbb8
          simp only [List.setIfInBounds_toArray, List.set_cons_zero] at hbb9
          have HBB9 := Lib.hid hbb9
          have HRB9 := Lib.hid (hset.heap hrb8 (show rb ≠ bb by omega))
          have HS9 := Lib.hid (hs8.set ⟨bb, 0, none⟩ (.slice p8 (b.pairs.length + 1) c8) hσb)
          have HW9 := Lib.hid (hbut8.then_setNew ⟨bb, 0, none⟩ (.slice p8 (b.pairs.length + 1) c8) (show w.heap.size ≤ bb by omega))
          have HD9 := Lib.hid (show ∀ k, (Value.slice p8 (b.pairs.length + 1) c8).ownBlock = some k → (Value.slice a1 l1 c1).ownBlock ≠ some k from fun k h1 h2 => by
            rcases hat8 with e | e
            · rw [e] at h1; exact hdis k h1 h2
            · rw [e] at h1; cases h1; have := (X1.lt _ h2).2; (first | omega | (simp at this; omega)))
          have hpl : (b.pairs ++ [(Pair2.mk y ⟨#[98, 111, 98]⟩ hyz (by decide))]).length ≤ 60 := by simp; have := HL0.out; have := HL1.out; have := HL0.out; omega
          clear hgrow hacc8 hk8 hbb8 hbut8 hs8 hrb8 hset hbb9 hat8 X0 X1 X2 X3 Y1 Y2 Y3 A0 A1 A2 A3 hs5 hs6 hb6 hb1 hdis hsd hpk hkd
          go_wp2_with fail
          go_meet
          exact ⟨_, _, _, _, ⟨b.pairs ++ [(Pair2.mk y ⟨#[98, 111, 98]⟩ hyz (by decide))], b.barred, b.heads, b.turns⟩, n6, HBB9.out, hpl, by have := HL1.out; dsimp only; omega, by have := HL2.out; dsimp only; omega, by have := HL3.out; dsimp only; omega, Z0.out, Z1.out, Z2.out, Z3.out, HD9.out, HS9.out, by omega, by omega, HW9.out, HRB9.out⟩
      · skip
        have hb1 : But σ.b w4 w4 := Kept.refl _ _
        have hs6 := hs5
        have hb6 := hb1
        have hsd := hs5
        have hpk := hs5
        have hkd := hs5
        have X1 := A1
        have hbb6 := hbb4
        have e0 := cell_at (i := 0) hbb4 rfl
        have e1 := cell_at (i := 1) hbb4 rfl
        have hplb : b.barred.length + b.pairs.length ≤ 1000000 := by have := HL0.out; have := HL1.out; omega
        go_wp2_with (at_builtin; refine wp_appendP _ rfl _ _ 82 rfl w.heap.size 95 32 Tryz.underlying82 (by kernel_rfl) (.slice a1 l1 c1) b.barred rfl A1 w.heap.size (.slice a0 l0 c0) b.pairs rfl A0 hplb (by decide) hwz4 ?_)
        intro p8 c8 w8 hacc8 hgrow hat8
        have hk8 : Kept (fun k => (Value.slice a1 l1 c1).ownBlock ≠ some k) w4 w8 := (Kept.grown (Kept.refl _ _) hgrow (fun k hk => Or.inr (fun h => h hk)))
        have hbb8 := hk8.heap hbb6 (fun e => T1.out bb e rfl)
        have f8 := cell_at (i := 1) hbb8 rfl
        have z8 := frozen_at (i := 1) hbb8
        have hkr := Lib.hid (fun k (hk : (Value.slice a1 l1 c1).ownBlock = some k) => X1.lt k hk)
        have X0 := A0.keep RPair.ok hb1 (fun _ h => h.elim) (fun k hk => by have := (A0.lt k hk).1; omega)
        have X2 := A2.keep RStr.ok hb1 (fun _ h => h.elim) (fun k hk => by have := (A2.lt k hk).1; omega)
        have X3 := A3.keep RTurn.ok hb1 (fun _ h => h.elim) (fun k hk => by have := (A3.lt k hk).1; omega)
        have hbut8 : But σ.b w w8 := (hw4.trans hb1).trans2 hk8 (fun i hi _ e => by have := hkr.out i e; omega)
        have hs8 := hs6.kept hk8 (fun k hk e => by have := hkr.out k e; omega)
        have hrb8 := hk8.heap (hb1.heap hrb4 (by omega)) (fun e => U1.out rb e rfl)
        have Y0 := X0.keep RPair.ok hk8 (fun _ h => h.elim) (fun k h1 h2 => hdis k h1 h2)
        have Y2 := X2.keep RStr.ok hk8 (fun _ h => h.elim) (X2.apart X1 (by decide))
        have Y3 := X3.keep RTurn.ok hk8 (fun _ h => h.elim) (X3.apart X1 (by decide))
        have hset : Kept (fun k => k ≠ bb) w8 (w8.setCell ⟨bb, 1, none⟩ (.slice p8 (b.barred.length + b.pairs.length) c8)) := Kept.setCell w8 _ _ (by simp)
        have Z0 := Lib.hid (Y0.keep RPair.ok hset (fun _ h => h.elim) T0.out)
        have Z2 := Lib.hid (Y2.keep RStr.ok hset (fun _ h => h.elim) T2.out)
        have Z3 := Lib.hid (Y3.keep RTurn.ok hset (fun _ h => h.elim) T3.out)
        have Z1 := Lib.hid (hacc8.keep RPair.ok hset (fun _ h => h.elim) (hacc8.notType hbb8 (by decide)))
        have hbb9 := heap_setCell_at w8 bb 1 (.slice p8 (b.barred.length + b.pairs.length) c8) _ _ _ hbb8
        simp only [List.setIfInBounds_toArray, List.set_cons_succ, List.set_cons_zero] at hbb9
        have HBB9 := Lib.hid hbb9
        have HRB9 := Lib.hid (hset.heap hrb8 (show rb ≠ bb by omega))
        have HS9 := Lib.hid (hs8.set ⟨bb, 1, none⟩ (.slice p8 (b.barred.length + b.pairs.length) c8) hσb)
        have HW9 := Lib.hid (hbut8.then_setNew ⟨bb, 1, none⟩ (.slice p8 (b.barred.length + b.pairs.length) c8) (show w.heap.size ≤ bb by omega))
        have HD9 := Lib.hid (show ∀ k, (Value.slice a0 l0 c0).ownBlock = some k → (Value.slice p8 (b.barred.length + b.pairs.length) c8).ownBlock ≠ some k from fun k h1 h2 => by
          rcases hat8 with e | e
          · rw [e] at h2; exact hdis k h1 h2
          · rw [e] at h2; cases h2; have := (X0.lt _ h1).2; (first | omega | (simp at this; omega)))
        have hpl : (b.barred ++ b.pairs).length ≤ 60 := by simp; have := HL0.out; have := HL1.out; have := HL1.out; omega
        clear hgrow hacc8 hk8 hbb8 hbut8 hs8 hrb8 hset hbb9 hat8 X0 X1 X2 X3 Y0 Y2 Y3 A0 A1 A2 A3 hs5 hs6 hb6 hb1 hdis hsd hpk hkd
        go_wp2_with fail
        go_meet
        exact ⟨_, _, _, _, ⟨b.pairs, b.barred ++ b.pairs, b.heads, b.turns⟩, n4, HBB9.out, by have := HL0.out; dsimp only; omega, hpl, by have := HL2.out; dsimp only; omega, by have := HL3.out; dsimp only; omega, Z0.out, Z1.out, Z2.out, Z3.out, HD9.out, HS9.out, by omega, by omega, HW9.out, HRB9.out⟩
      · skip
        have hla : ((w4.alloc (.cells #[.string ⟨#[]⟩, .string ⟨#[97, 110, 110]⟩, .string ⟨#[65]⟩] 9)).drew).heap[w4.heap.size]? = some (.cells #[.string ⟨#[]⟩, .string ⟨#[97, 110, 110]⟩, .string ⟨#[65]⟩] 9 (0, 0)) := heap_at w4 _ _ rfl
        have hpk : Sl RStr 1 (fun k => k ≠ σ.b) ((w4.alloc (.cells #[.string ⟨#[]⟩, .string ⟨#[97, 110, 110]⟩, .string ⟨#[65]⟩] 9)).drew) (some ⟨w4.heap.size, 0, none⟩) 3 [⟨#[]⟩, ⟨#[97, 110, 110]⟩, ⟨#[65]⟩] := Sl.lit_strs [⟨#[]⟩, ⟨#[97, 110, 110]⟩, ⟨#[65]⟩] hla rfl (by omega)
        have hkd : All w4 ((w4.alloc (.cells #[.string ⟨#[]⟩, .string ⟨#[97, 110, 110]⟩, .string ⟨#[65]⟩] 9)).drew) := (Kept.alloc _ _ _).then_drew
        have hsd : Str σ ((w4.alloc (.cells #[.string ⟨#[]⟩, .string ⟨#[97, 110, 110]⟩, .string ⟨#[65]⟩] 9)).drew) n4 := hs5.keep hkd
        have e2 := cell_at (i := 2) hbb4 rfl
        have d2 := hkd.cell e2 trivial
        have hplb : b.heads.length + 1 ≤ 1000000000 := by have := HL2.out; omega
        clear hla
        go_wp2_with fail
        go_region_law (first
          | (refine step_append1 RStr.ok _ (by rfl) _ _ 56 (by rfl) w.heap.size 9 (.string ⟨#[]⟩) 1 16 Tryz.underlying56 (by kernel_rfl) rfl (by decide) (fun _ => False) (.slice a2 l2 c2) b.heads (by rfl) (X2.keepAll RStr.ok (by repeat (first | exact Kept.refl _ _ | refine Kept.then_drew ?_ | refine Kept.then_drewN ?_ _ | refine Kept.then_alloc ?_ _))) ⟨w6.heap.size, 0, none⟩ 1 [.string y] (by rfl) rfl (World.news_of_block (cs := #[.string y]) (t := 9) (fr := (0, 0)) (heap_alloc_new w6 _)) (by simp [Value.oneCell']) y ⟨rfl, hyz⟩ hplb (by decide) (by have := hb1.size; simp; omega) ?_; intro p8 c8 w8 hacc8 hgrow hat8; have hk8 : Kept (fun k => (Value.slice a2 l2 c2).ownBlock ≠ some k) w6 w8 := (Kept.grown (Kept.all (((by repeat (first | exact Kept.refl _ _ | refine Kept.then_drew ?_ | refine Kept.then_drewN ?_ _ | refine Kept.then_alloc ?_ _))) : All w6 _)) hgrow (fun k hk => Or.inr (fun h => h hk))); have hbb8 := hk8.heap hbb6 (fun e => T2.out bb e rfl); have f8 := cell_at (i := 2) hbb8 rfl; have z8 := frozen_at (i := 2) hbb8)
          | (go_simp; go_at_call 52; refine (some10_any σ n4 _ 3 3 [⟨#[]⟩, ⟨#[97, 110, 110]⟩, ⟨#[65]⟩] _ hsd (by omega) hpk (by omega) (by omega)).mono ?_; rintro e w6 ⟨v, n6, rfl, ⟨y, rfl, -, hyz⟩, hn7, hn8, hs6, hb6⟩; have hb1 : But σ.b w4 w6 := (Kept.all hkd).trans hb6; have hbb6 := hb1.heap hbb4 (by omega); have hlb6 : bb < w6.heap.size := (Array.getElem?_eq_some_iff.1 hbb6).1; have e6 := cell_at (i := 2) hbb6 rfl; have X2 := A2.keep RStr.ok hb1 (fun _ h => h.elim) (fun k hk => by have := (A2.lt k hk).1; omega)))
        all_goals
          have hkr := Lib.hid (fun k (hk : (Value.slice a2 l2 c2).ownBlock = some k) => X2.lt k hk)
          have X0 := A0.keep RPair.ok hb1 (fun _ h => h.elim) (fun k hk => by have := (A0.lt k hk).1; omega)
          have X1 := A1.keep RPair.ok hb1 (fun _ h => h.elim) (fun k hk => by have := (A1.lt k hk).1; omega)
          have X3 := A3.keep RTurn.ok hb1 (fun _ h => h.elim) (fun k hk => by have := (A3.lt k hk).1; omega)
          have hbut8 : But σ.b w w8 := (hw4.trans hb1).trans2 hk8 (fun i hi _ e => by have := hkr.out i e; omega)
          have hs8 := hs6.kept hk8 (fun k hk e => by have := hkr.out k e; omega)
          have hrb8 := hk8.heap (hb1.heap hrb4 (by omega)) (fun e => U2.out rb e rfl)
          have Y0 := X0.keep RPair.ok hk8 (fun _ h => h.elim) (X0.apart X2 (by decide))
          have Y1 := X1.keep RPair.ok hk8 (fun _ h => h.elim) (X1.apart X2 (by decide))
          have Y3 := X3.keep RTurn.ok hk8 (fun _ h => h.elim) (X3.apart X2 (by decide))
          have hset : Kept (fun k => k ≠ bb) w8 (w8.setCell ⟨bb, 2, none⟩ (.slice p8 (b.heads.length + 1) c8)) := Kept.setCell w8 _ _ (by simp)
          have Z0 := Lib.hid (Y0.keep RPair.ok hset (fun _ h => h.elim) T0.out)
          have Z1 := Lib.hid (Y1.keep RPair.ok hset (fun _ h => h.elim) T1.out)
          have Z3 := Lib.hid (Y3.keep RTurn.ok hset (fun _ h => h.elim) T3.out)
          have Z2 := Lib.hid (hacc8.keep RStr.ok hset (fun _ h => h.elim) (hacc8.notType hbb8 (by decide)))
          have hbb9 := heap_setCell_at w8 bb 2 (.slice p8 (b.heads.length + 1) c8) _ _ _ hbb8
          simp only [List.setIfInBounds_toArray, List.set_cons_succ, List.set_cons_zero] at hbb9
          have HBB9 := Lib.hid hbb9
          have HRB9 := Lib.hid (hset.heap hrb8 (show rb ≠ bb by omega))
          have HS9 := Lib.hid (hs8.set ⟨bb, 2, none⟩ (.slice p8 (b.heads.length + 1) c8) hσb)
          have HW9 := Lib.hid (hbut8.then_setNew ⟨bb, 2, none⟩ (.slice p8 (b.heads.length + 1) c8) (show w.heap.size ≤ bb by omega))
          have HD9 := Lib.hid hdis
          have hpl : (b.heads ++ [y]).length ≤ 60 := by simp; have := HL0.out; have := HL1.out; have := HL2.out; omega
          clear hgrow hacc8 hk8 hbb8 hbut8 hs8 hrb8 hset hbb9 hat8 X0 X1 X2 X3 Y0 Y1 Y3 A0 A1 A2 A3 hs5 hs6 hb6 hb1 hdis hsd hpk hkd
          go_wp2_with fail
          go_meet
          exact ⟨_, _, _, _, ⟨b.pairs, b.barred, b.heads ++ [y], b.turns⟩, n6, HBB9.out, by have := HL0.out; dsimp only; omega, by have := HL1.out; dsimp only; omega, hpl, by have := HL3.out; dsimp only; omega, Z0.out, Z1.out, Z2.out, Z3.out, HD9.out, HS9.out, by omega, by omega, HW9.out, HRB9.out⟩
      · skip
        have hsd := hs5
        have hpk := hs5
        have hkd := hs5
        have e3 := cell_at (i := 3) hbb4 rfl
        have hplb : b.turns.length + 1 ≤ 1000000000 := by have := HL3.out; omega
        go_wp2_with fail
        go_region_law (first
          | (refine step_append1 RTurn.ok _ (by rfl) _ _ 83 (by rfl) w.heap.size 152 (.agg #[.int .i64 0, .string ⟨#[]⟩, .bool false]) 3 32 Tryz.underlying83 (by kernel_rfl) rfl (by decide) (fun _ => False) (.slice a3 l3 c3) b.turns (by rfl) (X3.keepAll RTurn.ok (by repeat (first | exact Kept.refl _ _ | refine Kept.then_drew ?_ | refine Kept.then_drewN ?_ _ | refine Kept.then_alloc ?_ _))) ⟨w6.heap.size, 0, none⟩ 1 [.int .i64 z, .string y, .bool fl] (by rfl) rfl (World.news_of_block (cs := #[.int .i64 z, .string y, .bool fl]) (t := 152) (fr := (0, 0)) (heap_alloc_new w6 _)) (by simp [Value.oneCell']) (Turn3.mk z y fl) ⟨rfl, hyz⟩ hplb (by decide) (by have := hb1.size; simp; omega) ?_; intro p8 c8 w8 hacc8 hgrow hat8; have hk8 : Kept (fun k => (Value.slice a3 l3 c3).ownBlock ≠ some k) w6 w8 := (Kept.grown (Kept.all (((by repeat (first | exact Kept.refl _ _ | refine Kept.then_drew ?_ | refine Kept.then_drewN ?_ _ | refine Kept.then_alloc ?_ _))) : All w6 _)) hgrow (fun k hk => Or.inr (fun h => h hk))); have hbb8 := hk8.heap hbb6 (fun e => T3.out bb e rfl); have f8 := cell_at (i := 3) hbb8 rfl; have z8 := frozen_at (i := 3) hbb8)
          | (go_simp; go_at_call 53; refine (odd10_any σ n4 0 100 _ (hs5.keep (by repeat (first | exact Kept.refl _ _ | refine Kept.then_drew ?_ | refine Kept.then_drewN ?_ _ | refine Kept.then_alloc ?_ _))) (by omega) (by omega) (by omega) (by omega)).mono ?_; rintro e wa ⟨v, na, rfl, ⟨z, rfl, -⟩, hna1, hna2, hsa, hba⟩; (try have hlitA : wa.heap[w4.heap.size]? = some (.cells #[.string ⟨#[112, 97]⟩, .string ⟨#[65]⟩] 9 (0, 0)) := hba.heap (heap_at w4 (.cells #[.string ⟨#[112, 97]⟩, .string ⟨#[65]⟩] 9) w4.heap.size rfl) (by omega)); have hbA : But σ.b w4 wa := (Kept.all ((by repeat (first | exact Kept.refl _ _ | refine Kept.then_drew ?_ | refine Kept.then_drewN ?_ _ | refine Kept.then_alloc ?_ _)) : All w4 _)).trans hba; have hbb5 := hbA.heap hbb4 (by omega); have hlb5 : bb < wa.heap.size := (Array.getElem?_eq_some_iff.1 hbb5).1; have e5 := cell_at (i := 3) hbb5 rfl; have hlta := hsa.lt)
          | (go_simp; go_at_call 52; (first | refine (some10_any σ na _ 2 2 [⟨#[112, 97]⟩, ⟨#[65]⟩] _ (hsa.keep (by repeat (first | exact Kept.refl _ _ | refine Kept.then_drew ?_ | refine Kept.then_drewN ?_ _ | refine Kept.then_alloc ?_ _))) (by omega) (Sl.lit_strs [⟨#[112, 97]⟩, ⟨#[65]⟩] hlitA rfl (by omega)) (by omega) (by omega)).mono ?_ | refine (some10_any σ na _ 2 2 [⟨#[112, 97]⟩, ⟨#[65]⟩] _ (hsa.keep (by repeat (first | exact Kept.refl _ _ | refine Kept.then_drew ?_ | refine Kept.then_drewN ?_ _ | refine Kept.then_alloc ?_ _))) (by omega) (Sl.lit_strs [⟨#[112, 97]⟩, ⟨#[65]⟩] (heap_at wa _ _ rfl) rfl (by omega)) (by omega) (by omega)).mono ?_); rintro e wb ⟨v, nb, rfl, ⟨y, rfl, -, hyz⟩, hnb1, hnb2, hsb, hbb_⟩; have hbB : But σ.b w4 wb := (hbA.trans (Kept.all ((by repeat (first | exact Kept.refl _ _ | refine Kept.then_drew ?_ | refine Kept.then_drewN ?_ _ | refine Kept.then_alloc ?_ _)) : All wa _))).trans hbb_; have hbb5b := hbB.heap hbb4 (by omega); have hlb5b : bb < wb.heap.size := (Array.getElem?_eq_some_iff.1 hbb5b).1; have e5b := cell_at (i := 3) hbb5b rfl)
          | (go_simp; go_at_call 50; refine (flip_any σ nb 2 _ (hsb.keep (by repeat (first | exact Kept.refl _ _ | refine Kept.then_drew ?_ | refine Kept.then_drewN ?_ _ | refine Kept.then_alloc ?_ _))) (by omega) (by omega) (by omega)).mono ?_; rintro e w6 ⟨v, n6, rfl, ⟨fl, rfl⟩, hnf1, hnf2, hs6, hb6⟩; have hb1 : But σ.b w4 w6 := (hbB.trans (Kept.all ((by repeat (first | exact Kept.refl _ _ | refine Kept.then_drew ?_ | refine Kept.then_drewN ?_ _ | refine Kept.then_alloc ?_ _)) : All wb _))).trans hb6; have hbb6 := hb1.heap hbb4 (by omega); have hlb6 : bb < w6.heap.size := (Array.getElem?_eq_some_iff.1 hbb6).1; have e6 := cell_at (i := 3) hbb6 rfl; have X3 := A3.keep RTurn.ok hb1 (fun _ h => h.elim) (fun k hk => by have := (A3.lt k hk).1; omega)))
        all_goals
          have hkr := Lib.hid (fun k (hk : (Value.slice a3 l3 c3).ownBlock = some k) => X3.lt k hk)
          have X0 := A0.keep RPair.ok hb1 (fun _ h => h.elim) (fun k hk => by have := (A0.lt k hk).1; omega)
          have X1 := A1.keep RPair.ok hb1 (fun _ h => h.elim) (fun k hk => by have := (A1.lt k hk).1; omega)
          have X2 := A2.keep RStr.ok hb1 (fun _ h => h.elim) (fun k hk => by have := (A2.lt k hk).1; omega)
          have hbut8 : But σ.b w w8 := (hw4.trans hb1).trans2 hk8 (fun i hi _ e => by have := hkr.out i e; omega)
          have hs8 := hs6.kept hk8 (fun k hk e => by have := hkr.out k e; omega)
          have hrb8 := hk8.heap (hb1.heap hrb4 (by omega)) (fun e => U3.out rb e rfl)
          have Y0 := X0.keep RPair.ok hk8 (fun _ h => h.elim) (X0.apart X3 (by decide))
          have Y1 := X1.keep RPair.ok hk8 (fun _ h => h.elim) (X1.apart X3 (by decide))
          have Y2 := X2.keep RStr.ok hk8 (fun _ h => h.elim) (X2.apart X3 (by decide))
          have hset : Kept (fun k => k ≠ bb) w8 (w8.setCell ⟨bb, 3, none⟩ (.slice p8 (b.turns.length + 1) c8)) := Kept.setCell w8 _ _ (by simp)
          have Z0 := Lib.hid (Y0.keep RPair.ok hset (fun _ h => h.elim) T0.out)
          have Z1 := Lib.hid (Y1.keep RPair.ok hset (fun _ h => h.elim) T1.out)
          have Z2 := Lib.hid (Y2.keep RStr.ok hset (fun _ h => h.elim) T2.out)
          have Z3 := Lib.hid (hacc8.keep RTurn.ok hset (fun _ h => h.elim) (hacc8.notType hbb8 (by decide)))
          have hbb9 := heap_setCell_at w8 bb 3 (.slice p8 (b.turns.length + 1) c8) _ _ _ hbb8
          simp only [List.setIfInBounds_toArray, List.set_cons_succ, List.set_cons_zero] at hbb9
          have HBB9 := Lib.hid hbb9
          have HRB9 := Lib.hid (hset.heap hrb8 (show rb ≠ bb by omega))
          have HS9 := Lib.hid (hs8.set ⟨bb, 3, none⟩ (.slice p8 (b.turns.length + 1) c8) hσb)
          have HW9 := Lib.hid (hbut8.then_setNew ⟨bb, 3, none⟩ (.slice p8 (b.turns.length + 1) c8) (show w.heap.size ≤ bb by omega))
          have HD9 := Lib.hid hdis
          have hpl : (b.turns ++ [(Turn3.mk z y fl)]).length ≤ 60 := by simp; have := HL0.out; have := HL1.out; have := HL3.out; omega
          clear hgrow hacc8 hk8 hbb8 hbut8 hs8 hrb8 hset hbb9 hat8 X0 X1 X2 X3 Y0 Y1 Y2 A0 A1 A2 A3 hs5 hs6 hb6 hb1 hdis hsd hpk hkd
          go_wp2_with fail
          go_meet
          exact ⟨_, _, _, _, ⟨b.pairs, b.barred, b.heads, b.turns ++ [(Turn3.mk z y fl)]⟩, n6, HBB9.out, by have := HL0.out; dsimp only; omega, by have := HL1.out; dsimp only; omega, by have := HL2.out; dsimp only; omega, hpl, Z0.out, Z1.out, Z2.out, Z3.out, HD9.out, HS9.out, by omega, by omega, HW9.out, HRB9.out⟩
  case rest =>
    clear A0 A1 A2 A3 hbb3 hrb3 hs4 hw3 hdis HL0 HL1 HL2 HL3 hn1 hn2 hn3 hn4
    clear m0 m1 m2 m3
    obtain ⟨v0, v1, v2, v3, b, n', hbb, m0, m1, m2, m3, A0, A1, A2, A3, hdis, hst, hn1, hn2, hbut, hrb⟩ := hcut
    obtain ⟨wo, rfl⟩ : ∃ x : World, x = wc := ⟨_, rfl⟩
    obtain ⟨a0, c0, rfl, -⟩ := A0.form
    obtain ⟨l0, hl0⟩ : ∃ l, l = b.pairs.length := ⟨_, rfl⟩
    rw [← hl0] at A0 hbb hdis
    clear hl0
    obtain ⟨a1, c1, rfl, -⟩ := A1.form
    obtain ⟨l1, hl1⟩ : ∃ l, l = b.barred.length := ⟨_, rfl⟩
    rw [← hl1] at A1 hbb hdis
    clear hl1
    obtain ⟨a2, c2, rfl, -⟩ := A2.form
    obtain ⟨l2, hl2⟩ : ∃ l, l = b.heads.length := ⟨_, rfl⟩
    rw [← hl2] at A2 hbb
    clear hl2
    obtain ⟨a3, c3, rfl, -⟩ := A3.form
    obtain ⟨l3, hl3⟩ : ∃ l, l = b.turns.length := ⟨_, rfl⟩
    rw [← hl3] at A3 hbb
    clear hl3
    have hne0 := A0.notType hrb (by decide)
    have hne1 := A1.notType hrb (by decide)
    have hne2 := A2.notType hrb (by decide)
    have hne3 := A3.notType hrb (by decide)
    have hke : Kept (fun k => k ≠ rb) wo ((((wo.setCell ⟨rb, 0, none⟩ (.slice a0 l0 c0)).setCell ⟨rb, 1, none⟩ (.slice a1 l1 c1)).setCell ⟨rb, 2, none⟩ (.slice a2 l2 c2)).setCell ⟨rb, 3, none⟩ (.slice a3 l3 c3)) := ((((Kept.refl _ _).then_setCell _ _ (by simp)).then_setCell _ _ (by simp)).then_setCell _ _ (by simp)).then_setCell _ _ (by simp)
    have Z0 := Lib.hid (A0.keep RPair.ok hke (fun _ h => h.elim) hne0)
    have Z1 := Lib.hid (A1.keep RPair.ok hke (fun _ h => h.elim) hne1)
    have Z2 := Lib.hid (A2.keep RStr.ok hke (fun _ h => h.elim) hne2)
    have Z3 := Lib.hid (A3.keep RTurn.ok hke (fun _ h => h.elim) hne3)
    have hds := Lib.hid hdis
    have hfs := Lib.hid ((((hst.set ⟨rb, 0, none⟩ (.slice a0 l0 c0) hσr).set ⟨rb, 1, none⟩ (.slice a1 l1 c1) hσr).set ⟨rb, 2, none⟩ (.slice a2 l2 c2) hσr).set ⟨rb, 3, none⟩ (.slice a3 l3 c3) hσr)
    have hfw := Lib.hid ((((hbut.then_setNew ⟨rb, 0, none⟩ (.slice a0 l0 c0) hrw).then_setNew ⟨rb, 1, none⟩ (.slice a1 l1 c1) hrw).then_setNew ⟨rb, 2, none⟩ (.slice a2 l2 c2) hrw).then_setNew ⟨rb, 3, none⟩ (.slice a3 l3 c3) hrw)
    have hfin : ((((wo.setCell ⟨rb, 0, none⟩ (.slice a0 l0 c0)).setCell ⟨rb, 1, none⟩ (.slice a1 l1 c1)).setCell ⟨rb, 2, none⟩ (.slice a2 l2 c2)).setCell ⟨rb, 3, none⟩ (.slice a3 l3 c3)).heap[rb]? = some (.cells #[.slice a0 l0 c0, .slice a1 l1 c1, .slice a2 l2 c2, .slice a3 l3 c3] 85 (0, 0)) := by
      have h0 := heap_setCell_at wo rb 0 (.slice a0 l0 c0) _ _ _ hrb
      have h1 := heap_setCell_at _ rb 1 (.slice a1 l1 c1) _ _ _ h0
      have h2 := heap_setCell_at _ rb 2 (.slice a2 l2 c2) _ _ _ h1
      have h3 := heap_setCell_at _ rb 3 (.slice a3 l3 c3) _ _ _ h2
      simpa using h3
    have e0 := cell_at (i := 0) hbb rfl
    have e1 := cell_at (i := 1) hbb rfl
    have e2 := cell_at (i := 2) hbb rfl
    have e3 := cell_at (i := 3) hbb rfl
    have y0 := cell_at (i := 0) hrb rfl
    have y1 := cell_at (i := 1) hrb rfl
    have y2 := cell_at (i := 2) hrb rfl
    have y3 := cell_at (i := 3) hrb rfl
    have z0 := frozen_at (i := 0) hrb
    have z1 := frozen_at (i := 1) hrb
    have z2 := frozen_at (i := 2) hrb
    have z3 := frozen_at (i := 3) hrb
    have q0 := cell_at (i := 0) hfin rfl
    have q1 := cell_at (i := 1) hfin rfl
    have q2 := cell_at (i := 2) hfin rfl
    have q3 := cell_at (i := 3) hfin rfl
    clear hke hfin hrb hbb A0 A1 A2 A3 hst hbut hdis hne0 hne1 hne2 hne3
    go_wp2_with fail
    refine bodyPost_ret (v := .agg #[.slice a0 l0 c0, .slice a1 l1 c1, .slice a2 l2 c2, .slice a3 l3 c3]) ?_ rfl ⟨_, n', rfl, ⟨_, _, _, _, b, rfl, m0, m1, m2, m3, Z0.out, Z1.out, Z2.out, Z3.out, hds.out⟩, by omega, by omega, hfs.out, hfw.out⟩
    simp [results, Tryz.results40, go_sem, q0, q1, q2, q3]
end Go.Proofs.YtiecaedgphdfdaaGreatDoor
