/- Order of the stream. -/
import Derived.Test.YtbpbhpmkganefaaGreatDoorZi
import Derived.Test.YtbpbhpmkganefaaGreatDoorVa
import Derived.Test.YtbpbhpmkganefaaGreatDoorFc
namespace Go.Proofs.YtbpbhpmkganefaaGreatDoor
open Go.RowKit

theorem set2 {zs : List Int} {P : Int → Prop} (h : ∀ z ∈ zs, P z) {a b : Int} {i j : Nat} (ha : P a) (hb : P b) : ∀ z ∈ (zs.set i a).set j b, P z := by
  intro z hz
  rcases List.mem_or_eq_of_mem_set hz with h1 | h1
  · rcases List.mem_or_eq_of_mem_set h1 with h2 | h2
    · exact h z h2
    · exact h2 ▸ ha
  · exact h1 ▸ hb
/-- a list of numbers below n -/
def Idx (n : Nat) (zs : List Int) : Prop := zs.length = n ∧ ∀ z ∈ zs, 0 ≤ z ∧ z < n
def IsOrder (σ : St) (n : Nat) (B : Nat) (v : Value) (w : World) : Prop := ∃ zs, Acc RInt 1 3 (fun k => k ≠ σ.b) B w v zs ∧ Idx n zs

set_option maxHeartbeats 800000 in
theorem order_any (σ : St) (n : Nat) (m : Nat) (w : World) (hs : Str σ w n) (hn : n ≤ 4611686018427380000) (hm : m ≤ 1000) :
    Calls Tryz.prog 21 #[.pointer (some ⟨σ.b, 0, none⟩), .int .i64 m] w (StPost σ n m w (IsOrder σ m w.heap.size)) := by
  have hlt := hs.lt
  go_enter Tryz.func21, Tryz.ntmps21
  go_wp2
  go_loopw [5, 10] (fun v i wr => ∃ (k : Nat) (zs : List Int), k ≤ m ∧ i = .int .i64 k ∧ Acc RInt 1 3 (fun k => k ≠ σ.b) w.heap.size wr v zs ∧ zs.length = k ∧ (∀ z ∈ zs, 0 ≤ z ∧ z < m) ∧ All w wr) (fun _ i _ => m - (intOf i).toNat)
  case atStart => exact ⟨0, [], Nat.zero_le _, rfl, Acc.nil _ _ _ _ _ _, rfl, by simp, Kept.refl _ _⟩
  case round =>
    obtain ⟨k, zs, hk, rfl, hacc, hlen, hall, hkept⟩ := hrel
    by_cases hlt2 : k < m
    · go_wp2_with (at_builtin; refine wp_append1 RInt.ok _ rfl _ _ 22 rfl w.heap.size 3 (.int .i64 0) 1 8 Tryz.underlying22 (by kernel_rfl) rfl (by decide) (fun k => k ≠ σ.b) _ zs rfl (hacc.keepAll RInt.ok (Kept.alloc _ _ _)) ⟨_, 0, none⟩ 1 [.int .i64 k] rfl rfl ?c1 ?c2 k rfl ?c3 (by decide) ?c5 ?_)
      case c1 => exact cell_one_new _ _ _
      case c2 => simp [Value.oneCell']
      case c3 => omega
      case c5 => have := hkept.size; simp; omega
      intro p' c' w' hacc' hg hat
      have hlen' : (zs ++ [(k : Int)]).length = k + 1 := by simp; omega
      have hall' : ∀ z ∈ zs ++ [(k : Int)], 0 ≤ z ∧ z < m := by
        intro z hz
        rcases List.mem_append.1 hz with h | h
        · exact hall z h
        · simp at h; omega
      have hkept' : All w w' := (hkept.then_alloc _).grown hg (fun k' hk' => Or.inl (hacc.lt k' hk').1)
      clear hacc hg hat hall hkept hlen
      go_wp2
      go_roundw
      case rel => exact ⟨k + 1, _, by omega, by go_num, hacc', hlen', hall', hkept'⟩
      case measure => simp [intOf]; omega
    · have hkm : k = m := by omega
      subst hkm
      have hsr : Str σ wr n := hs.keep hkept
      have hbr : But σ.b w wr := Kept.all hkept
      have hd : decide ((k : Int) < (k : Int)) = false := by simp
      clear hs hkept
      go_wp2_with fail
      go_loopw [7] (fun i wq => ∃ (j : Int) (zs : List Int) (n' : Nat), -1 ≤ j ∧ j < k ∧ i = .int .i64 j ∧ Acc RInt 1 3 (fun k => k ≠ σ.b) w.heap.size wq u5 zs ∧ zs.length = k ∧ (∀ z ∈ zs, 0 ≤ z ∧ z < k) ∧ Str σ wq n' ∧ n ≤ n' ∧ (n' : Int) + j + 1 ≤ n + k ∧ But σ.b w wq) (fun i _ => (intOf i + 1).toNat)
      case atStart => exact ⟨_, zs, n, by omega, by omega, rfl, hacc, hlen, hall, hsr, by omega, by omega, hbr⟩
      case round =>
        clear hacc hlen hall hsr hbr zs
        obtain ⟨j, zs, n', hj1, hj2, rfl, hacc, hlen, hall, hsr, hn1, hn2, hbr⟩ := hrel
        by_cases hj : 0 < j
        · go_wp2_with fail
          refine (next_any σ n' _ _ hsr (by omega) (by omega) (by omega)).mono ?_
          rintro e w2 ⟨v, m2, rfl, ⟨r, rfl, hr1, hr2⟩, hm3, hm4, hs2, hb2⟩
          obtain ⟨i, rfl⟩ := Int.eq_ofNat_of_zero_le hr1
          obtain ⟨jn, rfl⟩ := Int.eq_ofNat_of_zero_le (show 0 ≤ j by omega)
          have hacc2 := hacc.keep RInt.ok hb2 (fun _ h => h) (fun k' hk' => by have := (hacc.lt k' hk').1; omega)
          have hbr2 : But σ.b w w2 := hbr.trans hb2
          clear hacc hbr hb2 hsr
          obtain ⟨g, cap, hv, hg, hcell, hfz⟩ := hacc2.ints (by omega)
          rw [hlen] at hv
          have hci := hcell i (by omega)
          have hcj := hcell jn (by omega)
          have hfi := hfz i
          have hfj := hfz jn
          have hmi : zs.getD i 0 ∈ zs := by
            rw [List.getD_eq_getElem?_getD, List.getElem?_eq_getElem (by omega)]; exact List.getElem_mem _
          have hmj : zs.getD jn 0 ∈ zs := by
            rw [List.getD_eq_getElem?_getD, List.getElem?_eq_getElem (by omega)]; exact List.getElem_mem _
          generalize zs.getD i 0 = zi at *
          generalize zs.getD jn 0 = zj at *
          clear hcell hfz
          subst hv
          by_cases hij : i = jn
          · subst hij
            go_wp2_with fail
            go_region
            go_wp2_with fail
            refine ⟨⟨_, (zs.set i zi).set i zi, m2, by omega, by omega, rfl, ((hacc2.setInt i zi).setInt i zi).keepAll RInt.ok (Kept.drew _ _), by simp; omega, set2 hall (hall zi hmi) (hall zi hmi), ((hs2.set _ _ (by dsimp only; omega)).set _ _ (by dsimp only; omega)).keep (Kept.drew _ _), by omega, by omega, ((hbr2.then_setNew _ _ hg).then_setNew _ _ hg).then_drew⟩, by simp [intOf]⟩
          · go_wp2_with fail
            go_region
            go_wp2_with fail
            refine ⟨⟨_, (zs.set jn zi).set i zj, m2, by omega, by omega, rfl, ((hacc2.setInt jn zi).setInt i zj).keepAll RInt.ok (Kept.drew _ _), by simp; omega, set2 hall (hall zi hmi) (hall zj hmj), ((hs2.set _ _ (by dsimp only; omega)).set _ _ (by dsimp only; omega)).keep (Kept.drew _ _), by omega, by omega, ((hbr2.then_setNew _ _ hg).then_setNew _ _ hg).then_drew⟩, by simp [intOf]⟩
        · have hd2 : decide (0 < j) = false := by simpa using hj
          go_wp2_with fail
          go_ret
          exact ⟨_, n', rfl, ⟨zs, hacc, hlen, hall⟩, by omega, by omega, hsr, hbr⟩
end Go.Proofs.YtbpbhpmkganefaaGreatDoor

/- A volume in the making: what is kept. No program in sight but types. -/
namespace Go.Proofs.YtbpbhpmkganefaaGreatDoor
open Go.RowKit

theorem AccI.imp {α : Type} {R R' : Rel α} {sz : Nat} {T : TypeId} {F : Nat → Nat → Prop} {B : Nat} {w : World} {v : Value} {xs : List α} (hR : ∀ G vs x, R G w vs x → R' G w vs x) (h : AccI R sz T F B w v xs) : AccI R' sz T F B w v xs := by
  obtain ⟨cells, ho, he⟩ := h
  exact ⟨cells, ho, fun i hi => hR _ _ _ (he i hi)⟩
/-- append of one element at a step of a region that draws its order. -/
theorem step_append1I {α : Type} {R : Rel α} (ok : R.Ok) {P : Program} (w : World) {ops : Array Oper} {o : Oper} {a : Act} {K : Act → World → Prop} {Q : Exit → Act → World → Prop} {E : Prop} (hgd : o.guard = none) (s x : Operand) (t : TypeId)
    (ho : o.op = .call { callee := .builtin .append, args := #[s, x], argTypes := #[t, t] })
    (B : Nat) (e : TypeId) (z : Value) (size bytes : Nat) (ht : P.underlying t = some (.slice e)) (hi : (P.info? e).map (fun i => (i.zero, i.size, i.bytes)) = some (some z, size, bytes))
    (hzs : z.cells.size = size) (hsz : 0 < size) (F : Nat → Nat → Prop)
    (v : Value) (xs : List α) (hs : a.eval s = v) (hacc : AccI R size e F B w v xs)
    (ad : Addr) (c : Nat) (vs : List Value) (hx : a.eval x = .slice (some ad) 1 c) (hl : vs.length = size) (hnews : ∀ j u, vs[j]? = some u → w.cell? (ad.add j) = some u) (h1 : ∀ u ∈ vs, u.oneCell' = true)
    (y : α) (hy : R (fun k => F xs.length k ∧ v.ownBlock ≠ some k) w vs y)
    (hb1 : xs.length + 1 ≤ 1000000000) (hb2 : bytes ≤ 100000) (hbase : B ≤ w.heap.size)
    (h : ∀ p' c' w', AccI R size e F B w' (.slice p' (xs.length + 1) c') (xs ++ [y]) → w.grownBy w' v.ownBlock → ((Value.slice p' (xs.length + 1) c').ownBlock = v.ownBlock ∨ (Value.slice p' (xs.length + 1) c').ownBlock = some w.heap.size) → K (a.put o.dst (.slice p' (xs.length + 1) c')) w') :
    if Region.wanted o (yielded ops a.tmps) = true then Oper.wp P o a w K Q else E := by
  have hw : Region.wanted o (yielded ops a.tmps) = true := by simp [Region.wanted, hgd]
  rw [if_pos hw]
  obtain ⟨i0, hi, hz0, hz1, hz2⟩ := info_parts hi
  obtain ⟨cells, hown, he⟩ := hacc
  have hbytes : (xs.length + 1) * bytes ≤ 140737488355328 := by
    calc (xs.length + 1) * bytes ≤ 1000000000 * 100000 := Nat.mul_le_mul hb1 hb2
      _ ≤ 140737488355328 := by decide
  obtain ⟨v', w', hr, h2, h3, h4, h5⟩ := run_append_own_at (P := P) w B t o.type e i0 z size bytes ht hi hz0 hz1 hz2 hzs hsz v xs.length cells hown ad 1 c vs (by omega) hnews h1 (by unfold maxLen; omega) hbytes hbase
  unfold Oper.wp execOp
  simp only [ho, resolve, invoke, builtin, Sem.run_bind, Sem.run_pure, Result.andThen_ok, List.map_toArray, List.map_cons, List.map_nil, hs, hx, hr]
  have hp := AccI.push ok hl hown he hy h2 h3 h5
  obtain ⟨p', c', rfl, _⟩ := hp.form
  simp only [List.length_append, List.length_cons, List.length_nil, Nat.zero_add] at *
  exact h p' c' w' hp h3 h5

/-- A volume as it is made lies in block vb; what it has gathered lies in blocks from B on. -/
abbrev VBlk (vb : Nat) (first : Int) (right : Bool) (chv : Value) (w : World) : Prop := w.heap[vb]? = some (.cells #[.int .i64 first, .bool right, chv] 30 (0, 0))
abbrev VChs (m B : Nat) (tag : Nat → Nat) (chv : Value) (chs : List Chap) (w : World) : Prop := AccI (RChapO m) 2 65 (Tag B tag) B w chv chs
abbrev VKept (σ : St) (vb B : Nat) (w4 w : World) : Prop := Kept (fun k => k ≠ σ.b ∧ k ≠ vb ∧ k < B) w4 w
def MakingV (σ : St) (vb B m l n c lo : Nat) (first : Int) (right : Bool) (w4 w : World) : Prop :=
  ∃ chv chs tag n', VBlk vb first right chv w ∧ VChs m B tag chv chs w ∧ lo ≤ chs.length ∧ chs.length ≤ l ∧ Str σ w n' ∧ n ≤ n' ∧ n' ≤ n + c ∧ VKept σ vb B w4 w

section
variable {σ : St} {vb B m n : Nat} {first : Int} {right : Bool} {w4 w W w5 w7 : World} {chv : Value} {chs : List Chap} {tag : Nat → Nat}
theorem MV.step (hσ : σ.b < vb) (hvb : vb < B) (hblk : VBlk vb first right chv w) (hch : VChs m B tag chv chs w) (hk : VKept σ vb B w4 w) (hW : All w W) (hb : But σ.b W w5) :
    VBlk vb first right chv w5 ∧ VChs m B tag chv chs w5 ∧ VKept σ vb B w4 w5 := by
  have h45 : But σ.b w w5 := (Kept.all hW).trans hb
  exact ⟨h45.heap hblk (by omega), hch.keep (RChapO.ok m) h45 (fun i k _ h => by have := h.2; omega) (fun k hk => by have := (hch.lt k hk).1; omega), hk.trans (h45.mono fun k h => h.1)⟩
/-- One chapter more. -/
theorem MV.chap {y : Chap} {p7 : Option Addr} {c7 n' : Nat} (hσ : σ.b < vb) (hvb : vb < B) (hblk : VBlk vb first right chv W) (hch : VChs m B tag chv chs W) (hk : VKept σ vb B w4 W) (hs : Str σ W n')
    (hacc7 : AccI (RChapO m) 2 65 (Tag B tag) B w7 (.slice p7 (chs.length + 1) c7) (chs ++ [y])) (hgrow : W.grownBy w7 chv.ownBlock) :
    VBlk vb first right (.slice p7 (chs.length + 1) c7) (w7.setCell ⟨vb, 2, none⟩ (.slice p7 (chs.length + 1) c7)) ∧ VChs m B tag (.slice p7 (chs.length + 1) c7) (chs ++ [y]) (w7.setCell ⟨vb, 2, none⟩ (.slice p7 (chs.length + 1) c7)) ∧
      VKept σ vb B w4 (w7.setCell ⟨vb, 2, none⟩ (.slice p7 (chs.length + 1) c7)) ∧ Str σ (w7.setCell ⟨vb, 2, none⟩ (.slice p7 (chs.length + 1) c7)) n' := by
  have hne1 : chv.ownBlock ≠ some vb := fun e => by have := (hch.lt _ e).1; omega
  have hbq := hgrow_heapF hgrow hblk (Ne.symm hne1)
  have hk7 : VKept σ vb B w4 w7 := hk.grown hgrow (fun k hk => Or.inr (by have := (hch.lt k hk).1; omega))
  have hs7 : Str σ w7 n' := hs.kept (F := fun k => k < B) ((Kept.refl _ _).grown hgrow (fun k hk => Or.inr (by have := (hch.lt k hk).1; omega))) (fun k hk => by omega)
  exact ⟨heap_setCell_at _ _ _ _ _ _ _ hbq, hacc7.keep (RChapO.ok m) (Kept.setCell (F := fun k => k ≠ vb) _ _ _ (by simp)) (fun i k _ h => by have := h.2; omega) (fun k hk => by have := (hacc7.lt k hk).1; omega), hk7.then_setCell _ _ (by simp), hs7.set _ _ (by dsimp only; omega)⟩

variable {g cap i nn : Nat} {t : ByteArray} {cv : Value} {ps : List ByteArray}
/-- One paper more in chapter i: what is there before it is stored. -/
theorem MV.grown {p7 : Option Addr} {c7 n' : Nat} (hσ : σ.b < vb) (hvb : vb < B) (hblk : VBlk vb first right (.slice (some ⟨g, 0, none⟩) nn cap) W) (hk : VKept σ vb B w4 W) (hs : Str σ W n')
    (hH : AccH (RChapO m) 2 65 (Tag B tag) B W (.slice (some ⟨g, 0, none⟩) nn cap) chs i [.string t, cv]) (hps : Acc RStr 1 9 (fun _ => False) 0 W cv ps)
    (hown : ∀ k, cv.ownBlock = some k → Tag B tag i k ∧ (Value.slice (some ⟨g, 0, none⟩) nn cap).ownBlock ≠ some k)
    (hgrow : W.grownBy w7 cv.ownBlock)
    (hat : (Value.slice p7 (ps.length + 1) c7).ownBlock = cv.ownBlock ∨ (Value.slice p7 (ps.length + 1) c7).ownBlock = some W.heap.size) :
    AccH (RChapO (m + 1)) 2 65 (Tag B (retag W.heap.size i tag)) B w7 (.slice (some ⟨g, 0, none⟩) nn cap) chs i [.string t, cv] ∧
      (∀ k, (Value.slice p7 (ps.length + 1) c7).ownBlock = some k → Tag B (retag W.heap.size i tag) i k ∧ k ≠ g) ∧ VBlk vb first right (.slice (some ⟨g, 0, none⟩) nn cap) w7 ∧ VKept σ vb B w4 w7 ∧ Str σ w7 n' := by
  have hgl := (hH.lt g rfl).2
  have hBg := (hH.lt g rfl).1
  have h1 := (hH.imp (R' := RChapO (m + 1)) (fun _ _ _ h => h.up (by omega))).live (RChapO.ok (m + 1))
  have hkk : Kept (fun k => cv.ownBlock ≠ some k) W w7 := (Kept.refl _ _).grown hgrow (fun k hk => Or.inr (by simp [hk]))
  have h2 := h1.keep (RChapO.ok (m + 1)) hkk (fun m k hm h _ _ e => hm (h.1.1.symm.trans (hown k e).1.1)) (fun k hk e => (hown k e).2 hk)
  refine ⟨h2.mono (RChapO.ok (m + 1)) (fun m k _ h => ⟨by rw [retag_old h.2]; exact h.1.1, h.1.2⟩), fun k hk => ?_, hgrow_heapF hgrow hblk (fun e => by have := (hown vb e.symm).1.2; omega), hk.grown hgrow (fun k hk => Or.inr (by have := (hown k hk).1.2; omega)), hs.kept (F := fun k => k < B) ((Kept.refl _ _).grown hgrow (fun k hk => Or.inr (by have := (hown k hk).1.2; omega))) (fun k hk => by omega)⟩
  rcases hat with h | h
  · rw [h] at hk
    have := (hps.lt k hk).2
    exact ⟨⟨by rw [retag_old this]; exact (hown k hk).1.1, (hown k hk).1.2⟩, fun e => by subst e; exact (hown k hk).2 rfl⟩
  · rw [h] at hk; injection hk with hk
    subst hk
    exact ⟨⟨retag_new (Nat.le_refl _), by omega⟩, by omega⟩
/-- .. and after it. -/
theorem MV.paper {s : ByteArray} {p7 : Option Addr} {c7 n' : Nat} {tag' : Nat → Nat} (hσ : σ.b < vb) (hvb : vb < B) (hblk : VBlk vb first right (.slice (some ⟨g, 0, none⟩) nn cap) w7) (hk : VKept σ vb B w4 w7) (hs : Str σ w7 n')
    (hH : AccH (RChapO (m + 1)) 2 65 (Tag B tag') B w7 (.slice (some ⟨g, 0, none⟩) nn cap) chs i [.string t, cv])
    (hown : ∀ k, (Value.slice p7 (ps.length + 1) c7).ownBlock = some k → Tag B tag' i k ∧ k ≠ g) (ht : t.size ≤ 1000000) (hpl : ps.length ≤ m)
    (hacc7 : Acc RStr 1 9 (fun _ => False) 0 w7 (.slice p7 (ps.length + 1) c7) (ps ++ [s])) :
    VBlk vb first right (.slice (some ⟨g, 0, none⟩) nn cap) (w7.setCell ⟨g, i * 2 + 1, none⟩ (.slice p7 (ps.length + 1) c7)) ∧ VChs (m + 1) B tag' (.slice (some ⟨g, 0, none⟩) nn cap) (chs.set i ⟨t, ps ++ [s]⟩) (w7.setCell ⟨g, i * 2 + 1, none⟩ (.slice p7 (ps.length + 1) c7)) ∧
      VKept σ vb B w4 (w7.setCell ⟨g, i * 2 + 1, none⟩ (.slice p7 (ps.length + 1) c7)) ∧ Str σ (w7.setCell ⟨g, i * 2 + 1, none⟩ (.slice p7 (ps.length + 1) c7)) n' := by
  have hBg := (hH.lt g rfl).1
  have h4 := hH.set (RChapO.ok (m + 1)) (j := 1) (by decide) (.slice p7 (ps.length + 1) c7)
  refine ⟨Kept.heap (Kept.setCell (F := fun k => k ≠ g) w7 _ _ (by simp)) hblk (by omega), h4.close (y := ⟨t, ps ++ [s]⟩) ⟨_, rfl, ⟨ht, by simp; omega⟩, hacc7.keep RStr.ok (Kept.setCell (F := fun k => k ≠ g) _ _ _ (by simp)) (fun _ h => h.elim) (fun k hk => (hown k hk).2), fun k hk => ⟨(hown k hk).1, fun e => (hown k hk).2 (by injection e with e; exact e.symm)⟩⟩, hk.then_setCell _ _ (by dsimp only; omega), hs.set _ _ (by dsimp only; omega)⟩
end
theorem AccH.setTitle {m B g nn cap i : Nat} {tag : Nat → Nat} {w : World} {chs : List Chap} {t : ByteArray} {cv : Value} (h : AccH (RChapO m) 2 65 (Tag B tag) B w (.slice (some ⟨g, 0, none⟩) nn cap) chs i [.string t, cv]) (t' : ByteArray) :
    AccH (RChapO m) 2 65 (Tag B tag) B (w.setCell ⟨g, i * 2, none⟩ (.string t')) (.slice (some ⟨g, 0, none⟩) nn cap) chs i [.string t', cv] :=
  h.set (RChapO.ok m) (j := 0) (by decide) (.string t')
section
variable {σ : St} {vb B m nn g cap i rb : Nat} {first : Int} {right : Bool} {w0 w4 w W w5 w7 : World} {cv : Value} {chs : List Chap} {tag : Nat → Nat} {t : ByteArray} {ps : List ByteArray} {o : Obj}
/-- A chapter that is being changed, while others write elsewhere. -/
theorem CH.step (hσ : σ.b < vb) (hvb : vb < B) (hrb : σ.b < rb) (hblk : VBlk vb first right (.slice (some ⟨g, 0, none⟩) nn cap) w) (hk : VKept σ vb B w4 w)
    (hH : AccH (RChapO m) 2 65 (Tag B tag) B w (.slice (some ⟨g, 0, none⟩) nn cap) chs i [.string t, cv]) (hps : Acc RStr 1 9 (fun _ => False) 0 w cv ps)
    (hown : ∀ k, cv.ownBlock = some k → Tag B tag i k ∧ (Value.slice (some ⟨g, 0, none⟩) nn cap).ownBlock ≠ some k) (hr : w.heap[rb]? = some o) (hb : But σ.b w0 w) (hW : All w W) (hb5 : But σ.b W w5) :
    VBlk vb first right (.slice (some ⟨g, 0, none⟩) nn cap) w5 ∧ VKept σ vb B w4 w5 ∧ AccH (RChapO m) 2 65 (Tag B tag) B w5 (.slice (some ⟨g, 0, none⟩) nn cap) chs i [.string t, cv] ∧ Acc RStr 1 9 (fun _ => False) 0 w5 cv ps ∧ w5.heap[rb]? = some o ∧ But σ.b w0 w5 := by
  have h45 : But σ.b w w5 := (Kept.all hW).trans hb5
  exact ⟨h45.heap hblk (by omega), hk.trans (h45.mono fun k h => h.1), hH.keep (RChapO.ok m) h45 (fun i k _ h _ _ => by have := h.2; omega) (fun k hk => by have := (hH.lt k hk).1; omega), hps.keep RStr.ok h45 (fun _ h => h.elim) (fun k hk => by have := (hown k hk).1.2; omega), h45.heap hr (by omega), hb.trans h45⟩
theorem MV.title {n' : Nat} {p7 : Option Addr} {c7 : Nat} {qs : List ByteArray} {tag' : Nat → Nat} (hσ : σ.b < vb) (hvb : vb < B) (hblk : VBlk vb first right (.slice (some ⟨g, 0, none⟩) nn cap) w7) (hk : VKept σ vb B w4 w7) (hs : Str σ w7 n')
    (hH : AccH (RChapO m) 2 65 (Tag B tag') B w7 (.slice (some ⟨g, 0, none⟩) nn cap) chs i [.string t, cv]) (hown : ∀ k, (Value.slice p7 qs.length c7).ownBlock = some k → Tag B tag' i k ∧ k ≠ g)
    (hacc : Acc RStr 1 9 (fun _ => False) 0 w7 (.slice p7 qs.length c7) qs) (t' : ByteArray) :
    VBlk vb first right (.slice (some ⟨g, 0, none⟩) nn cap) (w7.setCell ⟨g, i * 2, none⟩ (.string t')) ∧ VKept σ vb B w4 (w7.setCell ⟨g, i * 2, none⟩ (.string t')) ∧ Str σ (w7.setCell ⟨g, i * 2, none⟩ (.string t')) n' ∧
      AccH (RChapO m) 2 65 (Tag B tag') B (w7.setCell ⟨g, i * 2, none⟩ (.string t')) (.slice (some ⟨g, 0, none⟩) nn cap) chs i [.string t', cv] ∧ Acc RStr 1 9 (fun _ => False) 0 (w7.setCell ⟨g, i * 2, none⟩ (.string t')) (.slice p7 qs.length c7) qs := by
  have hBg := (hH.lt g rfl).1
  exact ⟨Kept.heap (Kept.setCell (F := fun k => k ≠ g) w7 _ _ (by simp)) hblk (by omega), hk.then_setCell _ _ (by dsimp only; omega), hs.set _ _ (by dsimp only; omega), hH.setTitle t', hacc.keep RStr.ok (Kept.setCell (F := fun k => k ≠ g) _ _ _ (by simp)) (fun _ h => h.elim) (fun k hk => (hown k hk).2)⟩
end
/-- Chapters, as they are read. -/
def IsVol (σ : St) (m : Nat) (v : Value) (w : World) : Prop := ∃ first right a cap cs, v = .agg #[.int .i64 first, .bool right, .slice a cs.length cap] ∧ cs.length ≤ m ∧ Sl RChap 2 (fun k => k ≠ σ.b) w a cs.length cs
theorem AccI.chaps {σ : St} {tag : Nat → Nat} {B M : Nat} {w : World} {v : Value} {xs : List Chap} (h : VChs M B tag v xs w) (hM : M ≤ 1000) (hB : σ.b < B) : ∃ a cap, v = .slice a xs.length cap ∧ Sl RChap 2 (fun k => k ≠ σ.b) w a xs.length xs := by
  have h1 := h.acc (RChapO.ok M) (G := fun k => k ≠ σ.b) (fun i k _ hk => by have := hk.2; omega)
  obtain ⟨a', cap', hv, hsl⟩ := h1.sl (RChapO.ok M) (by decide) (G := fun k => k ≠ σ.b) (fun _ h => h) (fun k hk => by have := (h1.lt k hk).1; omega)
  exact ⟨a', cap', hv, hsl.imp fun vs x hx => hx.read hM⟩
/-- The volume is handed back by way of block rb. -/
abbrev retV (rb : Nat) (first : Int) (right : Bool) (chv : Value) (w : World) : World := ((w.setCell ⟨rb, 0, none⟩ (.int .i64 first)).setCell ⟨rb, 1, none⟩ (.bool right)).setCell ⟨rb, 2, none⟩ chv
theorem VRet {σ : St} {rb B m n' : Nat} {first : Int} {right : Bool} {w0 w : World} {ac : Option Addr} {cc : Nat} {chs : List Chap} {tag : Nat → Nat} {a0 a1 a2 : Value} {T : TypeId} (hσ : σ.b < rb) (hrB : rb < B) (hw0 : w0.heap.size ≤ rb)
    (hch : VChs m B tag (.slice ac chs.length cc) chs w) (hrb : w.heap[rb]? = some (.cells #[a0, a1, a2] T (0, 0))) (hs : Str σ w n') (hb : But σ.b w0 w) (hm : m ≤ 1000) (hl : chs.length ≤ 100) :
    IsVol σ 100 (.agg #[.int .i64 first, .bool right, .slice ac chs.length cc]) (retV rb first right (.slice ac chs.length cc) w) ∧ Str σ (retV rb first right (.slice ac chs.length cc) w) n' ∧ But σ.b w0 (retV rb first right (.slice ac chs.length cc) w) ∧
      (retV rb first right (.slice ac chs.length cc) w).heap[rb]? = some (.cells #[.int .i64 first, .bool right, .slice ac chs.length cc] T (0, 0)) := by
  have hk : Kept (fun k => k ≠ rb) w (retV rb first right (.slice ac chs.length cc) w) := (((Kept.refl _ _).then_setCell _ _ (by simp)).then_setCell _ _ (by simp)).then_setCell _ _ (by simp)
  have h1 := AccI.chaps (σ := σ) (hch.keep (RChapO.ok m) hk (fun i k _ h => by have := h.2; omega) (fun k hk => by have := (hch.lt k hk).1; omega)) hm (by omega)
  obtain ⟨a, cap, hv, hsl⟩ := h1
  cases hv
  refine ⟨⟨first, right, ac, cc, chs, rfl, hl, hsl⟩, ((hs.set _ _ (by dsimp only; omega)).set _ _ (by dsimp only; omega)).set _ _ (by dsimp only; omega), ((hb.then_setNew _ _ hw0).then_setNew _ _ hw0).then_setNew _ _ hw0, ?_⟩
  rw [heap_setCell_at _ _ _ _ _ _ _ (heap_setCell_at _ _ _ _ _ _ _ (heap_setCell_at _ _ _ _ _ _ _ hrb))]
  rfl
end Go.Proofs.YtbpbhpmkganefaaGreatDoor
