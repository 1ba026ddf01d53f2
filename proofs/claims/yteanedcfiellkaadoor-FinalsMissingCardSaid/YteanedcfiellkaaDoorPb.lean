/- Contract of the maker of ballots. -/
import Derived.Test.YteanedcfiellkaaDoorPa
namespace Go.Proofs.YteanedcfiellkaaDoor
open Go.RowKit

/-- Ballots whose numbers are small. -/
def SmallBals (m : Nat) (bs : List Bal) : Prop := bs.length ≤ m ∧ ∀ x ∈ bs, -2000000000000 ≤ x.many ∧ x.many ≤ 2000000000000 ∧ x.ranks.length ≤ 100
def IsBals (F : Nat → Prop) (B : Nat) (v : Value) (w : World) : Prop := ∃ bs, Acc RBal 2 96 F B w v bs ∧ SmallBals 7 bs

theorem under26 : Tryd.prog.underlying 26 = some (.slice 9) := Tryd.underlying26

theorem heap_old_drew {w : World} {b : Nat} {o : Obj} (o' : Obj) (h : w.heap[b]? = some o) : (w.alloc o').drew.heap[b]? = some o := heap_old o' h
theorem hgrow_heap {w w' : World} {row : Option Nat} {b : Nat} {o : Obj} (hg : w.grownBy w' row) (h : w.heap[b]? = some o) (hne : some b ≠ row) : w'.heap[b]? = some o := by
  rw [hg.block b (by rcases Array.getElem?_eq_some_iff.1 h with ⟨h, _⟩; exact h) hne]; exact h

/-- A ballot in the making lies in block bb: what it holds; nothing else that was there in w3 has changed but the stream. -/
def Making (σ : St) (bb : Nat) (w3 wx : World) (n c : Nat) (l : Nat) : Prop :=
  ∃ (many : Int) (rv : Value) (rs : List ByteArray) (n' : Nat), wx.heap[bb]? = some (.cells #[.int .i64 many, rv] 96 (0, 0)) ∧ Acc RStr 1 9 (fun _ => False) w3.heap.size wx rv rs ∧ rs.length ≤ l ∧
    -2000000000000 ≤ many ∧ many ≤ 2000000000000 ∧ Str σ wx n' ∧ n ≤ n' ∧ n' ≤ n + c ∧ Kept (fun k => k ≠ σ.b ∧ k ≠ bb ∧ k < w3.heap.size) w3 wx
/-- The ranks grow by one. -/
theorem Making.grow {σ : St} {bb : Nat} {w3 w5 w6 : World} {n c l n' : Nat} {many : Int} {rv : Value} {rs : List ByteArray} {s : ByteArray} {p6 : Option Addr} {c6 : Nat} {o : Obj}
    (hb : σ.b < bb) (hb3 : bb < w3.heap.size) (hblk5 : w5.heap[bb]? = some (.cells #[.int .i64 many, rv] 96 (0, 0)))
    (hrs5 : Acc RStr 1 9 (fun _ => False) w3.heap.size w5 rv rs) (hs5 : Str σ w5 n') (hk5 : Kept (fun k => k ≠ σ.b ∧ k ≠ bb ∧ k < w3.heap.size) w3 w5)
    (hacc6 : Acc RStr 1 9 (fun _ => False) w3.heap.size w6 (.slice p6 (rs.length + 1) c6) (rs ++ [s])) (hgrow : (w5.alloc o).drew.grownBy w6 rv.ownBlock)
    (hl : rs.length + 1 ≤ l) (hm1 : -2000000000000 ≤ many) (hm2 : many ≤ 2000000000000) (hn1 : n ≤ n') (hn2 : n' ≤ n + c) :
    Making σ bb w3 (w6.setCell ⟨bb, 1, none⟩ (.slice p6 (rs.length + 1) c6)) n c l := by
  have hne1 : rv.ownBlock ≠ some bb := fun e => by have := (hrs5.lt _ e).1; omega
  have hbq := hgrow_heap hgrow (heap_old_drew _ hblk5) (Ne.symm hne1)
  have hk6 : Kept (fun k => k ≠ σ.b ∧ k ≠ bb ∧ k < w3.heap.size) w3 w6 := ((hk5.then_alloc _).then_drew).grown hgrow (fun k hk => Or.inl (hrs5.lt k hk).1)
  have hs6 : Str σ w6 n' := ((hs5.keep (Kept.alloc _ _ _)).keep (Kept.drew _ _)).kept (F := fun k => k < w3.heap.size) ((Kept.refl _ _).grown hgrow (fun k hk => Or.inr (by have := (hrs5.lt k hk).1; omega))) (fun k hk => by omega)
  exact ⟨many, _, rs ++ [s], n', heap_setCell_at _ _ _ _ _ _ _ hbq, hacc6.keep RStr.ok (Kept.setCell (F := fun k => k ≠ bb) _ _ _ (by simp)) (fun k hk => hk.elim) (fun k hk => by have := (hacc6.lt k hk).1; omega), by simp; omega, hm1, hm2, hs6.set _ _ (by dsimp only; omega), hn1, hn2, hk6.then_setCell _ _ (by simp)⟩
theorem Making.grow2 {σ : St} {bb : Nat} {w3 w5 W w6 : World} {n c l n' : Nat} {many q : Int} {rv : Value} {rs : List ByteArray} {s : ByteArray} {p6 : Option Addr} {c6 : Nat}
    (hb : σ.b < bb) (hb3 : bb < w3.heap.size) (hblk5 : w5.heap[bb]? = some (.cells #[.int .i64 many, rv] 96 (0, 0)))
    (hrs5 : Acc RStr 1 9 (fun _ => False) w3.heap.size w5 rv rs) (hs5 : Str σ w5 n') (hk5 : Kept (fun k => k ≠ σ.b ∧ k ≠ bb ∧ k < w3.heap.size) w3 w5) (hW : All w5 W)
    (hacc6 : Acc RStr 1 9 (fun _ => False) w3.heap.size w6 (.slice p6 (rs.length + 1) c6) (rs ++ [s])) (hgrow : W.grownBy w6 rv.ownBlock)
    (hl : rs.length + 1 ≤ l) (hm1 : -2000000000000 ≤ q) (hm2 : q ≤ 2000000000000) (hn1 : n ≤ n') (hn2 : n' ≤ n + c) :
    Making σ bb w3 ((w6.setCell ⟨bb, 0, none⟩ (.int .i64 q)).setCell ⟨bb, 1, none⟩ (.slice p6 (rs.length + 1) c6)) n c l := by
  have hne1 : rv.ownBlock ≠ some bb := fun e => by have := (hrs5.lt _ e).1; omega
  have hbq := hgrow_heap hgrow (hW.heap hblk5 trivial) (Ne.symm hne1)
  have hk6 : Kept (fun k => k ≠ σ.b ∧ k ≠ bb ∧ k < w3.heap.size) w3 w6 := (hk5.trans (Kept.all hW)).grown hgrow (fun k hk => Or.inl (hrs5.lt k hk).1)
  have hs6 : Str σ w6 n' := (hs5.keep hW).kept (F := fun k => k < w3.heap.size) ((Kept.refl _ _).grown hgrow (fun k hk => Or.inr (by have := (hrs5.lt k hk).1; omega))) (fun k hk => by omega)
  have hown : ∀ k, (Value.slice p6 (rs.length + 1) c6).ownBlock = some k → k ≠ bb := fun k hk => by have := (hacc6.lt k hk).1; omega
  exact ⟨q, _, rs ++ [s], n', heap_setCell_at _ _ _ _ _ _ _ (heap_setCell_at _ _ _ _ _ _ _ hbq), (hacc6.keep RStr.ok (Kept.setCell (F := fun k => k ≠ bb) _ _ _ (by simp)) (fun k hk => hk.elim) hown).keep RStr.ok (Kept.setCell (F := fun k => k ≠ bb) _ _ _ (by simp)) (fun k hk => hk.elim) hown, by simp; omega, hm1, hm2, (hs6.set _ _ (by dsimp only; omega)).set _ _ (by dsimp only; omega), hn1, hn2, (hk6.then_setCell _ _ (by simp)).then_setCell _ _ (by simp)⟩
theorem Making.step' {σ : St} {bb : Nat} {w3 w4 W w5 : World} {many : Int} {rv : Value} {rs : List ByteArray}
    (hb : σ.b < bb) (hb3 : bb < w3.heap.size) (hblk : w4.heap[bb]? = some (.cells #[.int .i64 many, rv] 96 (0, 0)))
    (hrs : Acc RStr 1 9 (fun _ => False) w3.heap.size w4 rv rs) (hk : Kept (fun k => k ≠ σ.b ∧ k ≠ bb ∧ k < w3.heap.size) w3 w4) (hW : All w4 W) (hb5 : But σ.b W w5) :
    w5.heap[bb]? = some (.cells #[.int .i64 many, rv] 96 (0, 0)) ∧ Acc RStr 1 9 (fun _ => False) w3.heap.size w5 rv rs ∧ Kept (fun k => k ≠ σ.b ∧ k ≠ bb ∧ k < w3.heap.size) w3 w5 ∧ But σ.b w4 w5 :=
  ⟨hb5.heap (hW.heap hblk trivial) (by omega), (hrs.keepAll RStr.ok hW).keep RStr.ok hb5 (fun _ h => h.elim) (fun k' hk' => by have := (hrs.lt k' hk').1; omega), (hk.trans (Kept.all hW)).trans (hb5.mono fun k hk => hk.1), (Kept.all hW).trans hb5⟩
/-- A method of the stream in between. -/
theorem Making.step {σ : St} {bb : Nat} {w3 w4 w5 : World} {many : Int} {rv : Value} {rs : List ByteArray}
    (hb : σ.b < bb) (hb3 : bb < w3.heap.size) (hblk : w4.heap[bb]? = some (.cells #[.int .i64 many, rv] 96 (0, 0)))
    (hrs : Acc RStr 1 9 (fun _ => False) w3.heap.size w4 rv rs) (hk : Kept (fun k => k ≠ σ.b ∧ k ≠ bb ∧ k < w3.heap.size) w3 w4) (hb5 : But σ.b w4 w5) :
    w5.heap[bb]? = some (.cells #[.int .i64 many, rv] 96 (0, 0)) ∧ Acc RStr 1 9 (fun _ => False) w3.heap.size w5 rv rs ∧ Kept (fun k => k ≠ σ.b ∧ k ≠ bb ∧ k < w3.heap.size) w3 w5 :=
  ⟨hb5.heap hblk (by omega), hrs.keep RStr.ok hb5 (fun _ h => h.elim) (fun k' hk' => by have := (hrs.lt k' hk').1; omega), hk.trans (hb5.mono fun k hk => hk.1)⟩

set_option maxRecDepth 100000 in
set_option maxHeartbeats 3200000 in
theorem ballots_any (σ : St) (n : Nat) (an : Option Addr) (ln cn : Nat) (ss : List ByteArray) (w : World) (hs : Str σ w n) (hn : n ≤ 4611686018427300000)
    (hln : ln ≤ 9) (hss : Sl RStr 1 (fun k => k ≠ σ.b) w an ln ss) :
    Calls Tryd.prog 11 #[.pointer (some ⟨σ.b, 0, none⟩), .slice an ln cn] w (StPost σ n 1000 w (IsBals (fun k => k ≠ σ.b) w.heap.size)) := by
  have hlt := hs.lt
  have hssL := hss.live RStr.ok (by decide)
  clear hss
  go_enter Tryd.func11, Tryd.ntmps11
  go_wp2_with fail
  refine (range_any σ n 0 7 _ hs (by omega) (by omega) (by omega) (by omega)).mono ?_
  rintro e w1 ⟨v, m1, rfl, ⟨r, rfl, hr1, hr2⟩, hm1, hm2, hs1, hb1⟩
  obtain ⟨rn, rfl⟩ := Int.eq_ofNat_of_zero_le hr1
  clear hs
  go_wp2_with fail
  go_loopw [5, 11] (fun v i wr => ∃ (k : Nat) (bs : List Bal) (n' : Nat), k ≤ rn ∧ i = .int .i64 k ∧ Acc RBal 2 96 (fun k => k ≠ σ.b) w.heap.size wr v bs ∧ bs.length = k ∧ (∀ x ∈ bs, -2000000000000 ≤ x.many ∧ x.many ≤ 2000000000000 ∧ x.ranks.length ≤ 100) ∧ Str σ wr n' ∧ n ≤ n' ∧ n' ≤ n + 1 + k * 100 ∧ But σ.b w wr) (fun _ i _ => rn - (intOf i).toNat)
  case atStart => exact ⟨0, [], m1, Nat.zero_le _, rfl, Acc.nil _ _ _ _ _ _, rfl, by simp, hs1, by omega, by omega, hb1⟩
  case round =>
    clear hs1 hb1
    obtain ⟨k, bs, n', hk, rfl, hacc, hlen, hall, hsr, hn1, hn2, hbr⟩ := hrel
    obtain ⟨wo, rfl⟩ : ∃ wo : World, wo = wr := ⟨_, rfl⟩
    by_cases hlt2 : k < rn
    · have hlr := hsr.lt
      have hsz := hbr.size
      go_wp2_with fail
      refine (pick_any σ n' _ _ _ [1, 2, 3, 5, 7, 10, 50, 97] _ (hsr.keep (Kept.alloc _ _ _)) (by omega) (Sl.lit_ints _ (heap_at _ _ _ (by simp)) rfl (by simp; omega)) (by simp) (by simp)).mono ?_
      rintro e w2 ⟨v, n2, rfl, ⟨many, rfl, hmany⟩, hn3, hn4, hs2, hb2⟩
      have hmy : 0 ≤ many ∧ many ≤ 97 := by simp at hmany; omega
      clear hmany hsr
      obtain ⟨hmy1, hmy2⟩ := hmy
      go_wp2_with fail
      have hs2' : Str σ (w2.alloc (.cells #[.int .i64 many, .slice none 0 0] 96)) n2 := hs2.keep (Kept.alloc _ _ _)
      have hbb2 : σ.b < w2.heap.size := hs2.lt
      have hsz2 : wo.heap.size < w2.heap.size := by have := hb2.size; simp at this; omega
      refine (order_any σ n2 ln _ hs2' (by omega) (by omega)).mono ?_
      rintro e w3 ⟨v, n3, rfl, ⟨zs, hord, hzl, hzb⟩, hn5, hn6, hs3, hb3⟩
      have hblk3 : w3.heap[w2.heap.size]? = some (.cells #[.int .i64 many, .slice none 0 0] 96 (0, 0)) := hb3.heap (heap_at _ _ _ rfl) (by omega)
      have hblt : w2.heap.size < w3.heap.size := by have := hb3.size; simp at this; omega
      have hordL := (hord.intAny (fun _ => False))
      obtain ⟨ao, co, hvo, hso⟩ := hordL.sl RInt.ok (by decide) (G := fun k => k ≠ σ.b ∧ k ≠ w2.heap.size ∧ k < w3.heap.size) (fun k hk => hk.elim) (fun k hk => by have := hordL.lt k hk; simp at this; omega)
      subst hvo
      rw [hzl] at hso ⊢
      have hbo3 : Kept (fun k => k ≠ σ.b) wo w3 := (((Kept.alloc _ _ _).trans hb2).then_alloc _).trans hb3
      have hss3 : Sl RStr 1 (fun k => k ≠ σ.b ∧ k ≠ w2.heap.size ∧ k < w3.heap.size) w3 an ln ss := ((hssL.keep RStr.ok (hbr.mono fun k h => h.1)).keep RStr.ok (hbo3.mono fun k h => h.1)).mono RStr.ok (fun k h => ⟨h.1, by omega, by omega⟩)
      have hacc3 : Acc RBal 2 96 (fun k => k ≠ σ.b ∧ k < wo.heap.size) w.heap.size w3 u5 bs := (hacc.live RBal.ok).keep RBal.ok hbo3 (fun k h => h.1) (fun k hk => by have := (hacc.lt k hk).1; omega)
      have hown3 : ∀ k, u5.ownBlock = some k → w.heap.size ≤ k ∧ k < wo.heap.size := hacc.lt
      have hbut3 : But σ.b w w3 := hbr.trans hbo3
      clear hord hordL hs2 hs2' hb2 hb3 hbo3 hacc hbr
      go_wp2_with fail
      go_loopw [8, 22] (fun _ c wq => ∃ (j : Nat), j ≤ ln ∧ c = .int .i64 j ∧ Making σ w2.heap.size w3 wq n3 j j) (fun _ c _ => ln - (intOf c).toNat)
      case atStart => exact ⟨0, Nat.zero_le _, rfl, many, _, [], n3, hblk3, Acc.nil _ _ _ _ _ _, Nat.zero_le _, by omega, by omega, hs3, by omega, by omega, Kept.refl _ _⟩
      case round =>
        clear hs3 hblk3
        obtain ⟨j, hj, rfl, many', rv, rs, n4, hblk, hrs, hrl, hmn1, hmn2, hs4, hn7, hn8, hk4⟩ := hrel
        obtain ⟨wi, rfl⟩ : ∃ wi : World, wi = wr := ⟨_, rfl⟩
        by_cases hjl : j < ln
        · obtain ⟨bo, oo, hao, hFo, hco⟩ := (hso.keep RInt.ok hk4).ints (by omega)
          subst hao
          have hcj := hco j (by omega)
          have hmem : zs.getD j 0 ∈ zs := by
            rw [List.getD_eq_getElem?_getD, List.getElem?_eq_getElem (by omega)]; exact List.getElem_mem _
          have hzr := hzb _ hmem
          obtain ⟨z, hz⟩ := Int.eq_ofNat_of_zero_le hzr.1
          rw [hz] at hcj hzr
          clear hmem hco hz
          go_wp2_with fail
          refine (flip_any σ n4 _ _ hs4 (by omega) (by omega) (by omega)).mono ?_
          rintro e w5 ⟨v, n5, rfl, ⟨r, rfl⟩, hn9, hn10, hs5, hb5⟩
          obtain ⟨hblk5, hrs5, hk5⟩ := Making.step hbb2 hblt hblk hrs hk4 hb5
          clear hs4 hblk hrs hk4 hb5 hcj
          cases r
          · obtain ⟨nb, no, hno, hFn, hcn⟩ := (hss3.keep RStr.ok hk5).strs (by omega)
            obtain ⟨hcz, hsz0⟩ := hcn z (by omega)
            generalize ss.getD z ByteArray.empty = s at hcz hsz0
            have c1 := cell_at (i := 1) hblk5 rfl
            have f1 := frozen_at (i := 1) hblk5
            subst hno
            clear hcn
            obtain ⟨hz0, hz1⟩ := hzr
            have hnb := World.block_lt_of_cell? w5 _ hcz
            have hbb5 := World.block_lt_of_cell? w5 _ c1
            have hne1 : rv.ownBlock ≠ some w2.heap.size := fun e => by have := (hrs5.lt _ e).1; omega
            have hne2 : rv.ownBlock ≠ some nb := fun e => by have := (hrs5.lt _ e).1; have := hFn.2.2; omega
            have hsz3 := hk5.size
            go_wp2_with fail
            go_region_law (first
              | (refine step_append1 RStr.ok _ (by rfl) _ _ 26 (by rfl) w3.heap.size 9 (.string ⟨#[]⟩) 1 16 under26 (by kernel_rfl) rfl (by decide) (fun _ => False) rv rs (by rfl) (hrs5.keepAll RStr.ok ((Kept.alloc _ _ _).then_drew)) ⟨w5.heap.size, 0, none⟩ 1 [.string s] (by rfl) rfl (World.news_of_block (cs := #[.string s]) (t := 9) (fr := (0, 0)) (heap_alloc_new w5 _)) (by simp [Value.oneCell']) s ⟨rfl, hsz0⟩ (by omega) (by decide) (by simp; omega) ?_; intro p6 c6 w6 hacc6 hgrow hat6; have q1 : w6.cell? ⟨w2.heap.size, 1, none⟩ = some rv := hgrow.cell (Kept.cell (F := fun _ => True) (w := w5) (Kept.then_drew (Kept.alloc _ _ _)) c1 trivial) (Ne.symm hne1); have q2 : w6.cell? ⟨nb, no + z, none⟩ = some (.string s) := hgrow.cell (Kept.cell (F := fun _ => True) (w := w5) (Kept.then_drew (Kept.alloc _ _ _)) hcz trivial) (Ne.symm hne2); have q3 : w6.frozen? ⟨w2.heap.size, 1, none⟩ = false := frozen_at (hgrow_heap hgrow (heap_old_drew _ hblk5) (Ne.symm hne1))))
            all_goals
              have hmk := Lib.hid (Making.grow (l := j + 1) (n := n3) (c := j + 1) hbb2 hblt hblk5 hrs5 hs5 hk5 hacc6 hgrow (by omega) hmn1 hmn2 (by omega) (by omega))
              clear hgrow hat6 q1 q2 q3 hs5 hrs5 hk5 hacc6
              go_wp2_with fail
              go_roundw
              case rel => exact ⟨j + 1, by omega, by go_num, hmk.out⟩
              case measure => simp [intOf]; omega
          · go_wp2_with fail
            go_roundw
            case rel => exact ⟨j + 1, by omega, by go_num, many', rv, rs, n5, hblk5, hrs5, by omega, hmn1, hmn2, hs5, by omega, by omega, hk5⟩
            case measure => simp [intOf]; omega
        · have hd : decide ((j : Int) < (ln : Int)) = false := by simp; omega
          go_upto_region 11 with fail
          go_cut [46] (fun t wx => ∃ b : Bool, t = .bool b ∧ (∃ many rv rs n', wx.heap[w2.heap.size]? = some (.cells #[.int .i64 many, rv] 96 (0, 0)) ∧ Acc RStr 1 9 (fun _ => False) w3.heap.size wx rv rs ∧ rs.length ≤ 10 ∧ (b = true → 1 < rs.length) ∧ -2000000000000 ≤ many ∧ many ≤ 2000000000000 ∧ Str σ wx n' ∧ n3 ≤ n' ∧ n' ≤ n3 + 20 ∧ Kept (fun k => k ≠ σ.b ∧ k ≠ w2.heap.size ∧ k < w3.heap.size) w3 wx))
          case first =>
            go_wp2_with fail
            refine (flip_any σ n4 _ _ hs4 (by omega) (by omega) (by omega)).mono ?_
            rintro e w5 ⟨v, n5, rfl, ⟨r, rfl⟩, hn9, hn10, hs5, hb5⟩
            obtain ⟨hblk5, hrs5, hk5⟩ := Making.step hbb2 hblt hblk hrs hk4 hb5
            obtain ⟨pr, cr, rfl, hcr⟩ := hrs5.form
            have c1 := cell_at (i := 1) hblk5 rfl
            cases r
            · go_wp2_with fail
              go_meet
              exact ⟨false, rfl, many', _, rs, n5, hblk5, hrs5, by omega, by simp, hmn1, hmn2, hs5, by omega, by omega, hk5⟩
            · go_wp2_with fail
              go_meet
              exact ⟨_, rfl, many', _, rs, n5, hblk5, hrs5, by omega, fun h => by have := of_decide_eq_true h; omega, hmn1, hmn2, hs5, by omega, by omega, hk5⟩
          case rest =>
            clear hs4 hblk hrs hk4 hmn1 hmn2 hn7 hn8 hrl
            clear many' rv rs n4
            obtain ⟨b, rfl, many', rv, rs, n4, hblk, hrs, hrl, hb1, hmn1, hmn2, hs4, hn7, hn8, hk4⟩ := hcut
            go_upto_if 46 with fail
            go_cut [] (fun wx => Making σ w2.heap.size w3 wx n3 20 10)
            case first =>
              cases b
              · go_wp2_with fail
                go_meet
                exact ⟨many', _, rs, n4, hblk, hrs, by omega, hmn1, hmn2, hs4, by omega, by omega, hk4⟩
              · obtain ⟨pr, cr, rfl, hcr⟩ := hrs.form
                have hr1 := hb1 rfl
                have c1 := cell_at (i := 1) hblk rfl
                have f1 := frozen_at (i := 1) hblk
                have htk := hrs.take (k := 1) (by omega)
                have Htk := Lib.hid htk
                have hl1 : (rs.take 1).length ≤ 10 := by simp; omega
                clear htk
                go_wp2_with fail
                go_meet
                exact ⟨many', _, rs.take 1, n4, heap_setCell_at _ _ _ _ _ _ _ hblk, Htk.out.keep RStr.ok (Kept.setCell (F := fun k => k ≠ w2.heap.size) _ _ _ (by simp)) (fun k hk => hk.elim) (fun k hk => by have := (Htk.out.lt k hk).1; omega), hl1, hmn1, hmn2, hs4.set _ _ (by dsimp only; omega), by omega, by omega, hk4.then_setCell _ _ (by simp)⟩
            case rest =>
              clear hs4 hblk hrs hk4 hmn1 hmn2 hn7 hn8 hrl hb1
              clear many' rv rs n4
              obtain ⟨many', rv, rs, n4, hblk, hrs, hrl, hmn1, hmn2, hs4, hn7, hn8, hk4⟩ := hcut
              go_upto_region 13 with fail
              go_cut [52] (fun t wx => ∃ b : Bool, t = .bool b ∧ Making σ w2.heap.size w3 wx n3 30 10)
              case first =>
                go_wp2_with fail
                refine (flip_any σ n4 _ _ hs4 (by omega) (by omega) (by omega)).mono ?_
                rintro e w5 ⟨v, n5, rfl, ⟨r, rfl⟩, hn9, hn10, hs5, hb5⟩
                obtain ⟨hblk5, hrs5, hk5⟩ := Making.step hbb2 hblt hblk hrs hk4 hb5
                go_wp2_with fail
                go_meet
                exact ⟨_, rfl, many', _, rs, n5, hblk5, hrs5, by omega, hmn1, hmn2, hs5, by omega, by omega, hk5⟩
              case rest =>
                clear hs4 hblk hrs hk4 hmn1 hmn2 hn7 hn8 hrl
                clear many' rv rs n4
                obtain ⟨b, rfl, hmk⟩ := hcut
                go_upto_if 52 with fail
                go_cut [] (fun wx => Making σ w2.heap.size w3 wx n3 40 20)
                case first =>
                  obtain ⟨many', rv, rs, n4, hblk, hrs, hrl, hmn1, hmn2, hs4, hn7, hn8, hk4⟩ := hmk
                  cases b
                  · go_wp2_with fail
                    go_meet
                    exact ⟨many', _, rs, n4, hblk, hrs, by omega, hmn1, hmn2, hs4, by omega, by omega, hk4⟩
                  · have c1 := cell_at (i := 1) hblk rfl
                    have f1 := frozen_at (i := 1) hblk
                    have c0 := cell_at (i := 0) hblk rfl
                    have f0 := frozen_at (i := 0) hblk
                    have hne1 : rv.ownBlock ≠ some w2.heap.size := fun e => by have := (hrs.lt _ e).1; omega
                    have hsz3 := hk4.size
                    have hlc := World.block_lt_of_cell? wc _ c1
                    go_wp2_with fail
                    go_region_law (first
                      | (refine step_append1 RStr.ok _ (by rfl) _ _ 26 (by rfl) w3.heap.size 9 (.string ⟨#[]⟩) 1 16 under26 (by kernel_rfl) rfl (by decide) (fun _ => False) rv rs (by rfl) (hrs6.keepAll RStr.ok (by repeat (first | exact Kept.refl _ _ | refine Kept.then_drew ?_ | refine Kept.then_alloc ?_ _))) ⟨w6.heap.size, 0, none⟩ 1 [.string s] (by rfl) rfl (World.news_of_block (cs := #[.string s]) (t := 9) (fr := (0, 0)) (heap_alloc_new w6 _)) (by simp [Value.oneCell']) s ⟨rfl, hsz0⟩ (by omega) (by decide) (by simp; omega) ?_; intro p7 c7 w7 hacc7 hgrow hat7; have b7 := hgrow_heap hgrow (Kept.heap (w := w6) (F := fun _ => True) (by repeat (first | exact Kept.refl _ _ | refine Kept.then_drew ?_ | refine Kept.then_alloc ?_ _)) hblk6 trivial) (Ne.symm hne1); have c07 := cell_at (i := 0) b7 rfl; have f07 := frozen_at (i := 0) b7; have c17 := cell_at (i := 1) b7 rfl; have f17 := frozen_at (i := 1) b7)
                      | (go_simp; go_at_call 62; refine (odd10_any σ n4 1 1000 _ (hs4.keep (by repeat (first | exact Kept.refl _ _ | refine Kept.then_drew ?_ | refine Kept.then_alloc ?_ _))) (by omega) (by omega) (by omega) (by omega)).mono ?_; rintro e w5 ⟨v, n5, rfl, ⟨q, rfl, hq1, hq2⟩, hn9, hn10, hs5, hb5⟩; obtain ⟨hblk5, hrs5, hk5, hbut5⟩ := Making.step' hbb2 hblt hblk hrs hk4 (by repeat (first | exact Kept.refl _ _ | refine Kept.then_drew ?_ | refine Kept.then_alloc ?_ _)) hb5; have c15 := cell_at (i := 1) hblk5 rfl; have hl5 := World.block_lt_of_cell? w5 _ c15)
                      | (go_simp; go_at_call 63; refine (some10_any σ n5 _ _ _ ["na".toUTF8, "none".toUTF8] _ (hs5.keep (by repeat (first | exact Kept.refl _ _ | refine Kept.then_drew ?_ | refine Kept.then_alloc ?_ _))) (by omega) (Sl.lit_strs _ (by first | exact heap_at _ _ _ rfl | exact hb5.heap (heap_at _ _ _ rfl) (by have := hs4.lt; omega)) rfl (by have := hs4.lt; have := hs5.lt; omega)) (by simp) (by simp)).mono ?_; rintro e w6 ⟨v, n6, rfl, ⟨s, rfl, hsm, hsz0⟩, hn11, hn12, hs6, hb6⟩; obtain ⟨hblk6, hrs6, hk6, hbut6⟩ := Making.step' hbb2 hblt hblk5 hrs5 hk5 (by repeat (first | exact Kept.refl _ _ | refine Kept.then_drew ?_ | refine Kept.then_alloc ?_ _)) hb6; have c16 := cell_at (i := 1) hblk6 rfl; have hsz6 := hk6.size; have hl6 := World.block_lt_of_cell? w6 _ c16))
                    all_goals
                      have hmk := Lib.hid (Making.grow2 (l := 20) (n := n3) (c := 40) hbb2 hblt hblk6 hrs6 hs6 hk6 (by repeat (first | exact Kept.refl _ _ | refine Kept.then_drew ?_ | refine Kept.then_alloc ?_ _)) hacc7 hgrow (by omega) hq1 hq2 (by omega) (by omega))
                      clear hgrow hat7 hacc7 hs6 hs5 hs4 hrs6 hrs5 hrs hk6 hk5 hk4 hb5 hb6 hbut5 hbut6
                      go_wp2_with fail
                      go_meet
                      exact hmk.out
                case rest =>
                  clear hmk
                  obtain ⟨many', rv, rs, n4, hblk, hrs, hrl, hmn1, hmn2, hs4, hn7, hn8, hk4⟩ := hcut
                  obtain ⟨pr, cr, rfl, hcr⟩ := hrs.form
                  have c1 := cell_at (i := 1) hblk rfl
                  have c0 := cell_at (i := 0) hblk rfl
                  have hk3c : Kept (fun k => k ≠ σ.b ∧ k < w2.heap.size) w3 wc := hk4.mono fun k h => ⟨h.1, by omega, by omega⟩
                  have hsz3 := hk4.size
                  have haccc : Acc RBal 2 96 (fun k => k ≠ σ.b ∧ k < wo.heap.size) w.heap.size wc u5 bs := hacc3.keep RBal.ok hk3c (fun k h => ⟨h.1, by omega⟩) (fun k hk => by have := hown3 k hk; omega)
                  have haccd : Acc RBal 2 96 (fun k => k ≠ σ.b) w.heap.size wc u5 bs := haccc.mono RBal.ok fun k h => h.1
                  obtain ⟨pa, ca, hpv, hpsl⟩ := hrs.sl RStr.ok (by decide) (G := fun k => k ≠ σ.b ∧ u5.ownBlock ≠ some k) (fun k hk => hk.elim) (fun k hk => ⟨by have := (hrs.lt k hk).1; omega, fun e => by have := hown3 k e; have := (hrs.lt k hk).1; omega⟩)
                  cases hpv
                  have hnew : RBal (fun k => k ≠ σ.b ∧ u5.ownBlock ≠ some k) wc [.int .i64 many', .slice pr rs.length cr] ⟨many', rs⟩ := ⟨_, _, rfl, hcr, hpsl⟩
                  have hbutc : But σ.b w wc := hbut3.trans2 hk4 fun i hi hf => ⟨hf, by omega, by omega⟩
                  clear haccc hacc3 hk4 hk3c hrs hblk hss3
                  go_wp2_with (at_builtin; refine wp_append1 RBal.ok _ rfl _ _ 28 rfl w.heap.size 96 (.agg #[.int .i64 0, .slice none 0 0]) 2 32 Tryd.underlying28 (by kernel_rfl) rfl (by decide) (fun k => k ≠ σ.b) u5 bs rfl (haccd.keepAll RBal.ok (Kept.alloc _ _ _)) ⟨_, 0, none⟩ 1 [.int .i64 many', .slice pr rs.length cr] rfl rfl ?c1 ?c2 ⟨many', rs⟩ ?c6 ?c3 (by decide) ?c5 ?_)
                  case c1 => exact World.news_of_block (cs := #[.int .i64 many', .slice pr rs.length cr]) (heap_alloc_new wc _)
                  case c2 => simp [Value.oneCell']
                  case c6 => exact RBal.ok.keep (Kept.alloc _ _ _) hnew
                  case c3 => omega
                  case c5 => simp; omega
                  intro p' c' w' hacc' hg hat
                  have hbut' : But σ.b w w' := (hbutc.then_alloc _).grown hg (fun k hk => Or.inl (hown3 k hk).1)
                  have hs' : Str σ w' n4 := (hs4.keep (Kept.alloc _ _ _)).kept (F := fun k => k < w.heap.size) ((Kept.refl _ _).grown hg (fun k hk => Or.inr (by have := hown3 k hk; omega))) (fun k hk => by omega)
                  have hall' : ∀ x ∈ bs ++ [(⟨many', rs⟩ : Bal)], -2000000000000 ≤ x.many ∧ x.many ≤ 2000000000000 ∧ x.ranks.length ≤ 100 := by
                    intro x hx
                    rcases List.mem_append.1 hx with h | h
                    · exact hall x h
                    · rw [List.mem_singleton] at h
                      subst h
                      exact ⟨hmn1, hmn2, by dsimp only; omega⟩
                  have hlen' : (bs ++ [(⟨many', rs⟩ : Bal)]).length = k + 1 := by simp; omega
                  have Hall := Lib.hid hall'
                  have Hlen := Lib.hid hlen'
                  clear hg hat hall hall' hlen' hnew hbutc haccd hown3 hs4 hlen hpsl hssL
                  go_wp2_with fail
                  go_roundw
                  case rel => exact ⟨k + 1, _, n4, by omega, by go_num, hacc', Hlen.out, Hall.out, hs', by omega, by omega, hbut'⟩
                  case measure => simp [intOf]; omega
    · have hd : decide ((k : Int) < (rn : Int)) = false := by simp; omega
      go_wp2_with fail
      go_ret
      exact ⟨_, n', rfl, ⟨bs, hacc, by omega, hall⟩, by omega, by omega, hsr, hbr⟩
end Go.Proofs.YteanedcfiellkaaDoor
