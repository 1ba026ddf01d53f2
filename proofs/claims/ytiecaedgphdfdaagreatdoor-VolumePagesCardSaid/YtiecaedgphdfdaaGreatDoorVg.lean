/- A volume in the making: what is kept. No program in sight but types. -/
import Derived.Test.YtiecaedgphdfdaaGreatDoorVa
import Derived.Test.YtiecaedgphdfdaaGreatDoorFc
namespace Go.Proofs.YtiecaedgphdfdaaGreatDoor
open Go.RowKit

theorem AccI.imp {α : Type} {R R' : Rel α} {sz : Nat} {T : TypeId} {F : Nat → Nat → Prop} {B : Nat} {w : World} {v : Value} {xs : List α} (hR : ∀ G vs x, R G w vs x → R' G w vs x) (h : AccI R sz T F B w v xs) : AccI R' sz T F B w v xs := by
  obtain ⟨cells, ho, he⟩ := h
  exact ⟨cells, ho, fun i hi => hR _ _ _ (he i hi)⟩
/-- append of one element at a step of a region that draws its order. -/
theorem step_append1I {α : Type} {R : Rel α} (ok : R.Ok) {P : Program} (w : World) {ops : Array Oper} {o : Oper} {a : Act} {K : Act → World → Prop} {Q : Exit → Act → World → Prop} {E : Prop} (hgd : o.guard = none) (s x : Operand) (t : TypeId)
    (ho : o.op = .call { callee := .builtin .append, args := #[s, x], argTypes := #[t, t] })
    (B : Nat) (e : TypeId) (z : Value) (size bytes : Nat) (ht : P.underlying t = some (.slice e)) (hi : (P.info? e).map (fun i => (i.zero, i.size, i.bytes)) = some (some z, size, bytes))
    (hzs : z.cells.size = size) (hsz : 0 < size) (F : Nat → Nat → Prop)
    (v : Value) (xs : List α) (hs : a.eval s = v) (hacc : AccI R size e F B w v xs)
    (ad : Addr) (c : Nat) (vs : List Value) (hx : a.eval x = .slice (some ad) 1 c) (hl : vs.length = size) (hnews : ∀ j u, vs[j]? = some u → w.cell? (ad.add j) = some u) (h1 : ∀ u ∈ vs, u.oneCell' = true)
    (y : α) (hy : R (fun k => F xs.length k ∧ v.ownBlock ≠ some k) w vs y)
    (hb1 : xs.length + 1 ≤ 1000000000) (hb2 : bytes ≤ 100000) (hbase : B ≤ w.heap.size)
    (h : ∀ p' c' w', AccI R size e F B w' (.slice p' (xs.length + 1) c') (xs ++ [y]) → w.grownBy w' v.ownBlock → ((Value.slice p' (xs.length + 1) c').ownBlock = v.ownBlock ∨ (Value.slice p' (xs.length + 1) c').ownBlock = some w.heap.size) → K (a.put o.dst (.slice p' (xs.length + 1) c')) w') :
    if Region.wanted o (yielded ops a.tmps) = true then Oper.wp P o a w K Q else E := by
  have hw : Region.wanted o (yielded ops a.tmps) = true := by simp [Region.wanted, hgd]
  rw [if_pos hw]
  obtain ⟨i0, hi, hz0, hz1, hz2⟩ := info_parts hi
  obtain ⟨cells, hown, he⟩ := hacc
  have hbytes : (xs.length + 1) * bytes ≤ 140737488355328 := by
    calc (xs.length + 1) * bytes ≤ 1000000000 * 100000 := Nat.mul_le_mul hb1 hb2
      _ ≤ 140737488355328 := by decide
  obtain ⟨v', w', hr, h2, h3, h4, h5⟩ := run_append_own_at (P := P) w B t o.type e i0 z size bytes ht hi hz0 hz1 hz2 hzs hsz v xs.length cells hown ad 1 c vs (by omega) hnews h1 (by unfold maxLen; omega) hbytes hbase
  unfold Oper.wp execOp
  simp only [ho, resolve, invoke, builtin, Sem.run_bind, Sem.run_pure, Result.andThen_ok, List.map_toArray, List.map_cons, List.map_nil, hs, hx, hr]
  have hp := AccI.push ok hl hown he hy h2 h3 h5
  obtain ⟨p', c', rfl, _⟩ := hp.form
  simp only [List.length_append, List.length_cons, List.length_nil, Nat.zero_add] at *
  exact h p' c' w' hp h3 h5

/-- A volume as it is made lies in block vb; what it has gathered lies in blocks from B on. -/
abbrev VBlk (vb : Nat) (first : Int) (right : Bool) (chv : Value) (w : World) : Prop := w.heap[vb]? = some (.cells #[.int .i64 first, .bool right, chv] 30 (0, 0))
abbrev VChs (m B : Nat) (tag : Nat → Nat) (chv : Value) (chs : List Chap) (w : World) : Prop := AccI (RChapO m) 2 107 (Tag B tag) B w chv chs
abbrev VKept (σ : St) (vb B : Nat) (w4 w : World) : Prop := Kept (fun k => k ≠ σ.b ∧ k ≠ vb ∧ k < B) w4 w
def MakingV (σ : St) (vb B m l n c lo : Nat) (first : Int) (right : Bool) (w4 w : World) : Prop :=
  ∃ chv chs tag n', VBlk vb first right chv w ∧ VChs m B tag chv chs w ∧ lo ≤ chs.length ∧ chs.length ≤ l ∧ Str σ w n' ∧ n ≤ n' ∧ n' ≤ n + c ∧ VKept σ vb B w4 w

section
variable {σ : St} {vb B m n : Nat} {first : Int} {right : Bool} {w4 w W w5 w7 : World} {chv : Value} {chs : List Chap} {tag : Nat → Nat}
theorem MV.step (hσ : σ.b < vb) (hvb : vb < B) (hblk : VBlk vb first right chv w) (hch : VChs m B tag chv chs w) (hk : VKept σ vb B w4 w) (hW : All w W) (hb : But σ.b W w5) :
    VBlk vb first right chv w5 ∧ VChs m B tag chv chs w5 ∧ VKept σ vb B w4 w5 := by
  have h45 : But σ.b w w5 := (Kept.all hW).trans hb
  exact ⟨h45.heap hblk (by omega), hch.keep (RChapO.ok m) h45 (fun i k _ h => by have := h.2; omega) (fun k hk => by have := (hch.lt k hk).1; omega), hk.trans (h45.mono fun k h => h.1)⟩
/-- One chapter more. -/
theorem MV.chap {y : Chap} {p7 : Option Addr} {c7 n' : Nat} (hσ : σ.b < vb) (hvb : vb < B) (hblk : VBlk vb first right chv W) (hch : VChs m B tag chv chs W) (hk : VKept σ vb B w4 W) (hs : Str σ W n')
    (hacc7 : AccI (RChapO m) 2 107 (Tag B tag) B w7 (.slice p7 (chs.length + 1) c7) (chs ++ [y])) (hgrow : W.grownBy w7 chv.ownBlock) :
    VBlk vb first right (.slice p7 (chs.length + 1) c7) (w7.setCell ⟨vb, 2, none⟩ (.slice p7 (chs.length + 1) c7)) ∧ VChs m B tag (.slice p7 (chs.length + 1) c7) (chs ++ [y]) (w7.setCell ⟨vb, 2, none⟩ (.slice p7 (chs.length + 1) c7)) ∧
      VKept σ vb B w4 (w7.setCell ⟨vb, 2, none⟩ (.slice p7 (chs.length + 1) c7)) ∧ Str σ (w7.setCell ⟨vb, 2, none⟩ (.slice p7 (chs.length + 1) c7)) n' := by
  have hne1 : chv.ownBlock ≠ some vb := fun e => by have := (hch.lt _ e).1; omega
  have hbq := hgrow_heapF hgrow hblk (Ne.symm hne1)
  have hk7 : VKept σ vb B w4 w7 := hk.grown hgrow (fun k hk => Or.inr (by have := (hch.lt k hk).1; omega))
  have hs7 : Str σ w7 n' := hs.kept (F := fun k => k < B) ((Kept.refl _ _).grown hgrow (fun k hk => Or.inr (by have := (hch.lt k hk).1; omega))) (fun k hk => by omega)
  exact ⟨heap_setCell_at _ _ _ _ _ _ _ hbq, hacc7.keep (RChapO.ok m) (Kept.setCell (F := fun k => k ≠ vb) _ _ _ (by simp)) (fun i k _ h => by have := h.2; omega) (fun k hk => by have := (hacc7.lt k hk).1; omega), hk7.then_setCell _ _ (by simp), hs7.set _ _ (by dsimp only; omega)⟩

variable {g cap i nn : Nat} {t : ByteArray} {cv : Value} {ps : List ByteArray}
/-- One paper more in chapter i: what is there before it is stored. -/
theorem MV.grown {p7 : Option Addr} {c7 n' : Nat} (hσ : σ.b < vb) (hvb : vb < B) (hblk : VBlk vb first right (.slice (some ⟨g, 0, none⟩) nn cap) W) (hk : VKept σ vb B w4 W) (hs : Str σ W n')
    (hH : AccH (RChapO m) 2 107 (Tag B tag) B W (.slice (some ⟨g, 0, none⟩) nn cap) chs i [.string t, cv]) (hps : Acc RStr 1 9 (fun _ => False) 0 W cv ps)
    (hown : ∀ k, cv.ownBlock = some k → Tag B tag i k ∧ (Value.slice (some ⟨g, 0, none⟩) nn cap).ownBlock ≠ some k)
    (hgrow : W.grownBy w7 cv.ownBlock)
    (hat : (Value.slice p7 (ps.length + 1) c7).ownBlock = cv.ownBlock ∨ (Value.slice p7 (ps.length + 1) c7).ownBlock = some W.heap.size) :
    AccH (RChapO (m + 1)) 2 107 (Tag B (retag W.heap.size i tag)) B w7 (.slice (some ⟨g, 0, none⟩) nn cap) chs i [.string t, cv] ∧
      (∀ k, (Value.slice p7 (ps.length + 1) c7).ownBlock = some k → Tag B (retag W.heap.size i tag) i k ∧ k ≠ g) ∧ VBlk vb first right (.slice (some ⟨g, 0, none⟩) nn cap) w7 ∧ VKept σ vb B w4 w7 ∧ Str σ w7 n' := by
  have hgl := (hH.lt g rfl).2
  have hBg := (hH.lt g rfl).1
  have h1 := (hH.imp (R' := RChapO (m + 1)) (fun _ _ _ h => h.up (by omega))).live (RChapO.ok (m + 1))
  have hkk : Kept (fun k => cv.ownBlock ≠ some k) W w7 := (Kept.refl _ _).grown hgrow (fun k hk => Or.inr (by simp [hk]))
  have h2 := h1.keep (RChapO.ok (m + 1)) hkk (fun m k hm h _ _ e => hm (h.1.1.symm.trans (hown k e).1.1)) (fun k hk e => (hown k e).2 hk)
  refine ⟨h2.mono (RChapO.ok (m + 1)) (fun m k _ h => ⟨by rw [retag_old h.2]; exact h.1.1, h.1.2⟩), fun k hk => ?_, hgrow_heapF hgrow hblk (fun e => by have := (hown vb e.symm).1.2; omega), hk.grown hgrow (fun k hk => Or.inr (by have := (hown k hk).1.2; omega)), hs.kept (F := fun k => k < B) ((Kept.refl _ _).grown hgrow (fun k hk => Or.inr (by have := (hown k hk).1.2; omega))) (fun k hk => by omega)⟩
  rcases hat with h | h
  · rw [h] at hk
    have := (hps.lt k hk).2
    exact ⟨⟨by rw [retag_old this]; exact (hown k hk).1.1, (hown k hk).1.2⟩, fun e => by subst e; exact (hown k hk).2 rfl⟩
  · rw [h] at hk; injection hk with hk
    subst hk
    exact ⟨⟨retag_new (Nat.le_refl _), by omega⟩, by omega⟩
/-- .. and after it. -/
theorem MV.paper {s : ByteArray} {p7 : Option Addr} {c7 n' : Nat} {tag' : Nat → Nat} (hσ : σ.b < vb) (hvb : vb < B) (hblk : VBlk vb first right (.slice (some ⟨g, 0, none⟩) nn cap) w7) (hk : VKept σ vb B w4 w7) (hs : Str σ w7 n')
    (hH : AccH (RChapO (m + 1)) 2 107 (Tag B tag') B w7 (.slice (some ⟨g, 0, none⟩) nn cap) chs i [.string t, cv])
    (hown : ∀ k, (Value.slice p7 (ps.length + 1) c7).ownBlock = some k → Tag B tag' i k ∧ k ≠ g) (ht : t.size ≤ 1000000) (hpl : ps.length ≤ m)
    (hacc7 : Acc RStr 1 9 (fun _ => False) 0 w7 (.slice p7 (ps.length + 1) c7) (ps ++ [s])) :
    VBlk vb first right (.slice (some ⟨g, 0, none⟩) nn cap) (w7.setCell ⟨g, i * 2 + 1, none⟩ (.slice p7 (ps.length + 1) c7)) ∧ VChs (m + 1) B tag' (.slice (some ⟨g, 0, none⟩) nn cap) (chs.set i ⟨t, ps ++ [s]⟩) (w7.setCell ⟨g, i * 2 + 1, none⟩ (.slice p7 (ps.length + 1) c7)) ∧
      VKept σ vb B w4 (w7.setCell ⟨g, i * 2 + 1, none⟩ (.slice p7 (ps.length + 1) c7)) ∧ Str σ (w7.setCell ⟨g, i * 2 + 1, none⟩ (.slice p7 (ps.length + 1) c7)) n' := by
  have hBg := (hH.lt g rfl).1
  have h4 := hH.set (RChapO.ok (m + 1)) (j := 1) (by decide) (.slice p7 (ps.length + 1) c7)
  refine ⟨Kept.heap (Kept.setCell (F := fun k => k ≠ g) w7 _ _ (by simp)) hblk (by omega), h4.close (y := ⟨t, ps ++ [s]⟩) ⟨_, rfl, ⟨ht, by simp; omega⟩, hacc7.keep RStr.ok (Kept.setCell (F := fun k => k ≠ g) _ _ _ (by simp)) (fun _ h => h.elim) (fun k hk => (hown k hk).2), fun k hk => ⟨(hown k hk).1, fun e => (hown k hk).2 (by injection e with e; exact e.symm)⟩⟩, hk.then_setCell _ _ (by dsimp only; omega), hs.set _ _ (by dsimp only; omega)⟩
end
theorem AccH.setTitle {m B g nn cap i : Nat} {tag : Nat → Nat} {w : World} {chs : List Chap} {t : ByteArray} {cv : Value} (h : AccH (RChapO m) 2 107 (Tag B tag) B w (.slice (some ⟨g, 0, none⟩) nn cap) chs i [.string t, cv]) (t' : ByteArray) :
    AccH (RChapO m) 2 107 (Tag B tag) B (w.setCell ⟨g, i * 2, none⟩ (.string t')) (.slice (some ⟨g, 0, none⟩) nn cap) chs i [.string t', cv] :=
  h.set (RChapO.ok m) (j := 0) (by decide) (.string t')
section
variable {σ : St} {vb B m nn g cap i rb : Nat} {first : Int} {right : Bool} {w0 w4 w W w5 w7 : World} {cv : Value} {chs : List Chap} {tag : Nat → Nat} {t : ByteArray} {ps : List ByteArray} {o : Obj}
/-- A chapter that is being changed, while others write elsewhere. -/
theorem CH.step (hσ : σ.b < vb) (hvb : vb < B) (hrb : σ.b < rb) (hblk : VBlk vb first right (.slice (some ⟨g, 0, none⟩) nn cap) w) (hk : VKept σ vb B w4 w)
    (hH : AccH (RChapO m) 2 107 (Tag B tag) B w (.slice (some ⟨g, 0, none⟩) nn cap) chs i [.string t, cv]) (hps : Acc RStr 1 9 (fun _ => False) 0 w cv ps)
    (hown : ∀ k, cv.ownBlock = some k → Tag B tag i k ∧ (Value.slice (some ⟨g, 0, none⟩) nn cap).ownBlock ≠ some k) (hr : w.heap[rb]? = some o) (hb : But σ.b w0 w) (hW : All w W) (hb5 : But σ.b W w5) :
    VBlk vb first right (.slice (some ⟨g, 0, none⟩) nn cap) w5 ∧ VKept σ vb B w4 w5 ∧ AccH (RChapO m) 2 107 (Tag B tag) B w5 (.slice (some ⟨g, 0, none⟩) nn cap) chs i [.string t, cv] ∧ Acc RStr 1 9 (fun _ => False) 0 w5 cv ps ∧ w5.heap[rb]? = some o ∧ But σ.b w0 w5 := by
  have h45 : But σ.b w w5 := (Kept.all hW).trans hb5
  exact ⟨h45.heap hblk (by omega), hk.trans (h45.mono fun k h => h.1), hH.keep (RChapO.ok m) h45 (fun i k _ h _ _ => by have := h.2; omega) (fun k hk => by have := (hH.lt k hk).1; omega), hps.keep RStr.ok h45 (fun _ h => h.elim) (fun k hk => by have := (hown k hk).1.2; omega), h45.heap hr (by omega), hb.trans h45⟩
theorem MV.title {n' : Nat} {p7 : Option Addr} {c7 : Nat} {qs : List ByteArray} {tag' : Nat → Nat} (hσ : σ.b < vb) (hvb : vb < B) (hblk : VBlk vb first right (.slice (some ⟨g, 0, none⟩) nn cap) w7) (hk : VKept σ vb B w4 w7) (hs : Str σ w7 n')
    (hH : AccH (RChapO m) 2 107 (Tag B tag') B w7 (.slice (some ⟨g, 0, none⟩) nn cap) chs i [.string t, cv]) (hown : ∀ k, (Value.slice p7 qs.length c7).ownBlock = some k → Tag B tag' i k ∧ k ≠ g)
    (hacc : Acc RStr 1 9 (fun _ => False) 0 w7 (.slice p7 qs.length c7) qs) (t' : ByteArray) :
    VBlk vb first right (.slice (some ⟨g, 0, none⟩) nn cap) (w7.setCell ⟨g, i * 2, none⟩ (.string t')) ∧ VKept σ vb B w4 (w7.setCell ⟨g, i * 2, none⟩ (.string t')) ∧ Str σ (w7.setCell ⟨g, i * 2, none⟩ (.string t')) n' ∧
      AccH (RChapO m) 2 107 (Tag B tag') B (w7.setCell ⟨g, i * 2, none⟩ (.string t')) (.slice (some ⟨g, 0, none⟩) nn cap) chs i [.string t', cv] ∧ Acc RStr 1 9 (fun _ => False) 0 (w7.setCell ⟨g, i * 2, none⟩ (.string t')) (.slice p7 qs.length c7) qs := by
  have hBg := (hH.lt g rfl).1
  exact ⟨Kept.heap (Kept.setCell (F := fun k => k ≠ g) w7 _ _ (by simp)) hblk (by omega), hk.then_setCell _ _ (by dsimp only; omega), hs.set _ _ (by dsimp only; omega), hH.setTitle t', hacc.keep RStr.ok (Kept.setCell (F := fun k => k ≠ g) _ _ _ (by simp)) (fun _ h => h.elim) (fun k hk => (hown k hk).2)⟩
end
/-- Chapters, as they are read. -/
def IsVol (σ : St) (m : Nat) (v : Value) (w : World) : Prop := ∃ first right a cap cs, v = .agg #[.int .i64 first, .bool right, .slice a cs.length cap] ∧ cs.length ≤ m ∧ Sl RChap 2 (fun k => k ≠ σ.b) w a cs.length cs
theorem AccI.chaps {σ : St} {tag : Nat → Nat} {B M : Nat} {w : World} {v : Value} {xs : List Chap} (h : VChs M B tag v xs w) (hM : M ≤ 1000) (hB : σ.b < B) : ∃ a cap, v = .slice a xs.length cap ∧ Sl RChap 2 (fun k => k ≠ σ.b) w a xs.length xs := by
  have h1 := h.acc (RChapO.ok M) (G := fun k => k ≠ σ.b) (fun i k _ hk => by have := hk.2; omega)
  obtain ⟨a', cap', hv, hsl⟩ := h1.sl (RChapO.ok M) (by decide) (G := fun k => k ≠ σ.b) (fun _ h => h) (fun k hk => by have := (h1.lt k hk).1; omega)
  exact ⟨a', cap', hv, hsl.imp fun vs x hx => hx.read hM⟩
/-- The volume is handed back by way of block rb. -/
abbrev retV (rb : Nat) (first : Int) (right : Bool) (chv : Value) (w : World) : World := ((w.setCell ⟨rb, 0, none⟩ (.int .i64 first)).setCell ⟨rb, 1, none⟩ (.bool right)).setCell ⟨rb, 2, none⟩ chv
theorem VRet {σ : St} {rb B m n' : Nat} {first : Int} {right : Bool} {w0 w : World} {ac : Option Addr} {cc : Nat} {chs : List Chap} {tag : Nat → Nat} {a0 a1 a2 : Value} {T : TypeId} (hσ : σ.b < rb) (hrB : rb < B) (hw0 : w0.heap.size ≤ rb)
    (hch : VChs m B tag (.slice ac chs.length cc) chs w) (hrb : w.heap[rb]? = some (.cells #[a0, a1, a2] T (0, 0))) (hs : Str σ w n') (hb : But σ.b w0 w) (hm : m ≤ 1000) (hl : chs.length ≤ 100) :
    IsVol σ 100 (.agg #[.int .i64 first, .bool right, .slice ac chs.length cc]) (retV rb first right (.slice ac chs.length cc) w) ∧ Str σ (retV rb first right (.slice ac chs.length cc) w) n' ∧ But σ.b w0 (retV rb first right (.slice ac chs.length cc) w) ∧
      (retV rb first right (.slice ac chs.length cc) w).heap[rb]? = some (.cells #[.int .i64 first, .bool right, .slice ac chs.length cc] T (0, 0)) := by
  have hk : Kept (fun k => k ≠ rb) w (retV rb first right (.slice ac chs.length cc) w) := (((Kept.refl _ _).then_setCell _ _ (by simp)).then_setCell _ _ (by simp)).then_setCell _ _ (by simp)
  have h1 := AccI.chaps (σ := σ) (hch.keep (RChapO.ok m) hk (fun i k _ h => by have := h.2; omega) (fun k hk => by have := (hch.lt k hk).1; omega)) hm (by omega)
  obtain ⟨a, cap, hv, hsl⟩ := h1
  cases hv
  refine ⟨⟨first, right, ac, cc, chs, rfl, hl, hsl⟩, ((hs.set _ _ (by dsimp only; omega)).set _ _ (by dsimp only; omega)).set _ _ (by dsimp only; omega), ((hb.then_setNew _ _ hw0).then_setNew _ _ hw0).then_setNew _ _ hw0, ?_⟩
  rw [heap_setCell_at _ _ _ _ _ _ _ (heap_setCell_at _ _ _ _ _ _ _ (heap_setCell_at _ _ _ _ _ _ _ hrb))]
  rfl
end Go.Proofs.YtiecaedgphdfdaaGreatDoor
