/- bookOf: the reviews of each pair, in a map. -/
import Derived.Test.YtjbaijgdkkccbaaGreatDoorRo
import Derived.Test.YtjbaijgdkkccbaaGreatDoorBv
import Derived.Test.YtjbaijgdkkccbaaGreatDoorZo
import Derived.RangeFuncNested
import Derived.RangeFuncBound
import Derived.RangeFuncCalls
import Derived.RangeFuncLeaves
import Derived.Shelf.Abstract
import Derived.Shelf.RegionOpen
import Derived.WalkKit
import Derived.OwnWalkIn
import Derived.TacticsInMore
import Derived.LoopNIn
import Derived.LoopIn
namespace Go.Proofs.YtjbaijgdkkccbaaGreatDoor
open Go.RowKit

/-- A review, and where its answers lie. -/
abbrev Raw : Type := Rev × Option Addr × Nat
def encRaw (y : Raw) : List Value := [.int .i64 y.1.no, .int .i64 y.1.tm, .string y.1.paper, .string y.1.person, .string y.1.by_, .bool y.1.done, .slice y.2.1 y.1.answers.length y.2.2]
def RRaw : Rel Raw := fun _ _ vs y => vs = encRaw y ∧ RevSmall y.1
theorem flatRaw : Flat RRaw encRaw (fun y => RevSmall y.1) 7 :=
  ⟨fun _ _ _ _ => Iff.rfl, fun _ => rfl, by decide, fun x u hu => by simp [encRaw] at hu; rcases hu with rfl | rfl | rfl | rfl | rfl | rfl | rfl <;> rfl⟩
theorem RRaw.ok : RRaw.Ok := Flat.ok flatRaw
theorem Sl.atRaw {F : Nat → Prop} {w : World} {a : Option Addr} {len : Nat} {ts : List Raw} (h : Sl RRaw 7 F w a len ts) {k : Nat} (hk : k < len) :
    ∃ b off y, a = some ⟨b, off, none⟩ ∧ F b ∧ w.cell? ⟨b, off + k * 7, none⟩ = some (.int .i64 y.1.no) ∧ w.cell? ⟨b, off + k * 7 + 1, none⟩ = some (.int .i64 y.1.tm) ∧ w.cell? ⟨b, off + k * 7 + 2, none⟩ = some (.string y.1.paper) ∧ w.cell? ⟨b, off + k * 7 + 3, none⟩ = some (.string y.1.person) ∧ w.cell? ⟨b, off + k * 7 + 4, none⟩ = some (.string y.1.by_) ∧ w.cell? ⟨b, off + k * 7 + 5, none⟩ = some (.bool y.1.done) ∧ w.cell? ⟨b, off + k * 7 + 6, none⟩ = some (.slice y.2.1 y.1.answers.length y.2.2) ∧
      RevSmall y.1 ∧ ts[k]? = some y ∧ ts.take (k + 1) = ts.take k ++ [y] := by
  obtain ⟨b, off, vs, y, ha, hF, h1, h2, ⟨rfl, hsm⟩, h4, h5, h6⟩ := h.at hk
  exact ⟨b, off, y, ha, hF, (h2 0 (by simp [encRaw])).trans rfl, (h2 1 (by simp [encRaw])).trans rfl, (h2 2 (by simp [encRaw])).trans rfl, (h2 3 (by simp [encRaw])).trans rfl, (h2 4 (by simp [encRaw])).trans rfl, (h2 5 (by simp [encRaw])).trans rfl, (h2 6 (by simp [encRaw])).trans rfl, hsm, h4, h6⟩
theorem exists_list {α : Type} {P : Nat → α → Prop} : ∀ n : Nat, (∀ i, i < n → ∃ t, P i t) → ∃ ts : List α, ts.length = n ∧ ∀ i t, ts[i]? = some t → P i t
  | 0, _ => ⟨[], rfl, fun i t h => by simp at h⟩
  | n + 1, h => by
    obtain ⟨ts, h1, h2⟩ := exists_list n (fun i hi => h i (by omega))
    obtain ⟨t, ht⟩ := h n (by omega)
    refine ⟨ts ++ [t], by simp [h1], fun i u hu => ?_⟩
    by_cases hi : i < n
    · rw [List.getElem?_append_left (by omega)] at hu; exact h2 i u hu
    · have hlt := (List.getElem?_eq_some_iff.1 hu).1
      have hin : i = n := by simp [h1] at hlt; omega
      subst hin
      rw [List.getElem?_append_right (by omega), h1] at hu
      simp at hu
      subst hu
      exact ht
theorem Sl.raws {F : Nat → Prop} {w : World} {a : Option Addr} {len : Nat} {xs : List Rev} (h : Sl RRev 7 F w a len xs) : ∃ ts : List Raw, ts.map (·.1) = xs ∧ Sl RRaw 7 F w a len ts ∧ ∀ y ∈ ts, Sl RAns 4 F w y.2.1 y.1.answers.length y.1.answers := by
  have hlen := h.len
  rcases Nat.eq_zero_or_pos len with h0 | hp
  · subst h0
    exact ⟨[], by rw [List.eq_nil_of_length_eq_zero hlen]; rfl, Sl.nil _ _ _ _ _, fun y hy => by cases hy⟩
  · obtain ⟨b, off, ha, hF, hc⟩ := h.2 hp
    obtain ⟨ts, h1, h2⟩ := exists_list (P := fun i (t : Raw) => xs[i]? = some t.1 ∧ (∃ vs : List Value, vs.length = 7 ∧ (∀ (j : Nat) (hj : j < vs.length), w.cell? ⟨b, off + i * 7 + j, none⟩ = some vs[j]) ∧ RRaw F w vs t) ∧ Sl RAns 4 F w t.2.1 t.1.answers.length t.1.answers) len (fun i hi => by
      obtain ⟨vs, k1, k2, aa, ac, rfl, k3, k4⟩ := hc i (by omega)
      exact ⟨(xs[i], aa, ac), List.getElem?_eq_getElem (by omega), ⟨_, k1, k2, rfl, k3⟩, k4⟩)
    refine ⟨ts, List.ext_getElem? fun i => ?_, ⟨h1, fun _ => ⟨b, off, ha, hF, fun i hi => (h2 i _ (List.getElem?_eq_getElem hi)).2.1⟩⟩, fun y hy => ?_⟩
    · rw [List.getElem?_map]
      cases hi : ts[i]? with
      | none =>
        have := List.getElem?_eq_none_iff.1 hi
        rw [List.getElem?_eq_none (by omega)]
        rfl
      | some t => rw [(h2 i t hi).1]; rfl
    · obtain ⟨i, hi, rfl⟩ := List.mem_iff_getElem.1 hy
      exact (h2 i _ (List.getElem?_eq_getElem hi)).2.2
/-- The reviews of a pair. -/
def bookF (ts : List Raw) (p : K2) : List Raw := ts.filter (fun y => decide ((y.1.paper, y.1.person) = p))
theorem bookF_snoc (ts : List Raw) (y : Raw) (p : K2) : bookF (ts ++ [y]) p = if p = (y.1.paper, y.1.person) then bookF ts p ++ [y] else bookF ts p := by
  rw [bookF, List.filter_append]
  by_cases h : p = (y.1.paper, y.1.person)
  · subst h; simp [bookF]
  · have h' : ¬ (y.1.paper, y.1.person) = p := fun e => h e.symm
    simp [bookF, h, h']
theorem bookF_len (ts : List Raw) (p : K2) : (bookF ts p).length ≤ ts.length := List.length_filter_le _ _
/-- A row of one element, new since size z. -/
def DNewC (z : Nat) (cs : Array Value) (T : TypeId) (v : Value) (w : World) : Prop := ∃ b, v = .slice (some ⟨b, 0, none⟩) 1 1 ∧ z ≤ b ∧ w.heap[b]? = some (.cells cs T (0, 0))
/-- What holds while the operations come in whatever order: nothing but row u changes, and it does not ahead of the append (operation 15). -/
def BkG (wa : World) (u : Value) (L : Nat → Bool) (w : World) : Prop := Kept (fun i => u.ownBlock ≠ some i) wa w ∧ (L 15 = false → All wa w)
/-- How each may change the world. -/
def BkM (u : Value) (j : Nat) (w w' : World) : Prop := if j = 15 then Kept (fun i => u.ownBlock ≠ some i) w w' else All w w'
theorem bkG_all {wa w w' : World} {u : Value} {L : Nat → Bool} {i : Nat} (h : BkG wa u L w) (hi : i ≠ 15) (k : All w w') : BkG wa u (fun j => if j = i then true else L j) w' := ⟨h.1.trans (Kept.all k), fun hL => (h.2 (by simpa [show ¬ 15 = i from fun e => hi e.symm] using hL)).trans k⟩
theorem DNewC.keep {z j : Nat} {cs : Array Value} {T : TypeId} {v u : Value} {w w' : World} (h : DNewC z cs T v w) (hz : ∀ i, u.ownBlock = some i → i < z) (hm : BkM u j w w') : DNewC z cs T v w' := by
  obtain ⟨b, h1, h2, h3⟩ := h
  refine ⟨b, h1, h2, ?_⟩
  unfold BkM at hm
  split at hm
  · exact hm.heap h3 (fun e => by have := hz _ e; omega)
  · exact hm.heap h3 trivial
/-- What the append has left: the row with one review more; nothing else has changed since. -/
def DAppK (P : Program) (tk : TypeId) (T : TypeId) (wa : World) (B mb n : Nat) (vals : K2 → Value) (f : K2 → List Raw) (t : K2) (y : Raw) (v : Value) (w : World) : Prop :=
  ∃ wx w7 p c, v = .slice p ((f t).length + 1) c ∧ All wa wx ∧ RowK P tk RRaw 7 T wx B mb n vals f ∧ Acc RRaw 7 T (fun _ => False) B w7 (.slice p ((f t).length + 1) c) (f t ++ [y]) ∧ wx.grownBy w7 (vals t).ownBlock ∧
    ((Value.slice p ((f t).length + 1) c).ownBlock = (vals t).ownBlock ∨ (Value.slice p ((f t).length + 1) c).ownBlock = some wx.heap.size) ∧ All w7 w
theorem DAppK.keep {P : Program} {tk T : TypeId} {wa w w' : World} {B mb n : Nat} {vals : K2 → Value} {f : K2 → List Raw} {t : K2} {y : Raw} {v : Value} (h : DAppK P tk T wa B mb n vals f t y v w) (k : All w w') : DAppK P tk T wa B mb n vals f t y v w' := by
  obtain ⟨wx, w7, p, c, h1, h2, h3, h4, h5, h6, h7⟩ := h
  exact ⟨wx, w7, p, c, h1, h2, h3, h4, h5, h6, h7.trans k⟩
/-- A book in memory. -/
def BookIs (w : World) (kb : Nat) (cs : Array Value) (ts : List Raw) : Prop := ∃ mb B n vals, w.heap[kb]? = some (.cells (cs.push (.map (some mb))) 105 (0, 0)) ∧ RowK Tryz.prog 39 RRaw 7 73 w B mb n vals (bookF ts)
theorem BookIs.keep {w w' : World} {kb : Nat} {cs : Array Value} {ts : List Raw} (h : BookIs w kb cs ts) (k : All w w') : BookIs w' kb cs ts := by
  obtain ⟨mb, B, n, vals, h1, h2⟩ := h
  exact ⟨mb, B, n, vals, k.heap h1 trivial, h2.keep flatRaw k⟩

set_option maxRecDepth 100000 in
set_option maxHeartbeats 12800000 in
theorem bookOf_any (a0 : Option Addr) (l0 c0 : Nat) (a1 : Option Addr) (l1 c1 : Nat) (a2 : Option Addr) (l2 c2 : Nat) (a3 : Option Addr) (l3 c3 : Nat) (a4 : Option Addr) (l4 c4 : Nat) (s : Set7) (al : Option Addr) (len cap : Nat) (ts : List Raw) (w : World) (hs : Sl RRaw 7 (fun _ => True) w al len ts) (hl : len ≤ 1000000) :
    Calls Tryz.prog 81 #[.agg #[.slice a0 l0 c0, .slice a1 l1 c1, .slice a2 l2 c2, .slice a3 l3 c3, .slice a4 l4 c4, .int .i64 s.due, .int .i64 s.reply], .slice al len cap] w fun e w' => (∃ kb, e = .returned (.pointer (some ⟨kb, 0, none⟩)) ∧ BookIs w' kb #[.slice a0 l0 c0, .slice a1 l1 c1, .slice a2 l2 c2, .slice a3 l3 c3, .slice a4 l4 c4, .int .i64 s.due, .int .i64 s.reply] ts) ∧ All w w' := by
  have Hlen := Lib.hid hs.len
  obtain ⟨mb, hmb⟩ : ∃ k, k = w.heap.size + 1 := ⟨_, rfl⟩
  have HMB := Lib.hid hmb
  obtain ⟨kb, hkb⟩ : ∃ k, k = w.heap.size + 2 := ⟨_, rfl⟩
  have HKB := Lib.hid hkb
  have hb0 := heap_at w (.cells #[.slice a0 l0 c0, .slice a1 l1 c1, .slice a2 l2 c2, .slice a3 l3 c3, .slice a4 l4 c4, .int .i64 s.due, .int .i64 s.reply] 31) _ rfl
  have h1 : ((w.alloc (.cells #[.slice a0 l0 c0, .slice a1 l1 c1, .slice a2 l2 c2, .slice a3 l3 c3, .slice a4 l4 c4, .int .i64 s.due, .int .i64 s.reply] 31)).alloc (.map #[] 0)).heap.size = kb := by rw [hkb]; simp
  have hka : All w (((w.alloc (.cells #[.slice a0 l0 c0, .slice a1 l1 c1, .slice a2 l2 c2, .slice a3 l3 c3, .slice a4 l4 c4, .int .i64 s.due, .int .i64 s.reply] 31)).alloc (.map #[] 0)).alloc (.cells #[.slice a0 l0 c0, .slice a1 l1 c1, .slice a2 l2 c2, .slice a3 l3 c3, .slice a4 l4 c4, .int .i64 s.due, .int .i64 s.reply, .map (some mb)] 105)) := ((Kept.alloc _ _ _).then_alloc _).then_alloc _
  have hkm := heap_at ((w.alloc (.cells #[.slice a0 l0 c0, .slice a1 l1 c1, .slice a2 l2 c2, .slice a3 l3 c3, .slice a4 l4 c4, .int .i64 s.due, .int .i64 s.reply] 31)).alloc (.map #[] 0)) (.cells #[.slice a0 l0 c0, .slice a1 l1 c1, .slice a2 l2 c2, .slice a3 l3 c3, .slice a4 l4 c4, .int .i64 s.due, .int .i64 s.reply, .map (some mb)] 105) kb h1.symm
  obtain ⟨B, hB⟩ : ∃ k, k = w.heap.size + 3 := ⟨_, rfl⟩
  have hz4 : (((w.alloc (.cells #[.slice a0 l0 c0, .slice a1 l1 c1, .slice a2 l2 c2, .slice a3 l3 c3, .slice a4 l4 c4, .int .i64 s.due, .int .i64 s.reply] 31)).alloc (.map #[] 0)).alloc (.cells #[.slice a0 l0 c0, .slice a1 l1 c1, .slice a2 l2 c2, .slice a3 l3 c3, .slice a4 l4 c4, .int .i64 s.due, .int .i64 s.reply, .map (some mb)] 105)).heap.size = B := by rw [hB]; simp
  have hm1 : RowK Tryz.prog 39 RRaw 7 73 (((w.alloc (.cells #[.slice a0 l0 c0, .slice a1 l1 c1, .slice a2 l2 c2, .slice a3 l3 c3, .slice a4 l4 c4, .int .i64 s.due, .int .i64 s.reply] 31)).alloc (.map #[] 0)).alloc (.cells #[.slice a0 l0 c0, .slice a1 l1 c1, .slice a2 l2 c2, .slice a3 l3 c3, .slice a4 l4 c4, .int .i64 s.due, .int .i64 s.reply, .map (some mb)] 105)) B mb 0 (fun _ => .slice none 0 0) (fun _ => []) := by
    have h2 := RowK.start Tryz.prog 39 RRaw 7 73 (w.alloc (.cells #[.slice a0 l0 c0, .slice a1 l1 c1, .slice a2 l2 c2, .slice a3 l3 c3, .slice a4 l4 c4, .int .i64 s.due, .int .i64 s.reply] 31)) B
    rw [show (w.alloc (.cells #[.slice a0 l0 c0, .slice a1 l1 c1, .slice a2 l2 c2, .slice a3 l3 c3, .slice a4 l4 c4, .int .i64 s.due, .int .i64 s.reply] 31)).heap.size = mb by rw [hmb]; simp] at h2
    exact h2.keep flatRaw (Kept.alloc _ _ _)
  have e0 := cell_at (i := 0) hb0 rfl
  have e1 := cell_at (i := 1) hb0 rfl
  have e2 := cell_at (i := 2) hb0 rfl
  have e3 := cell_at (i := 3) hb0 rfl
  have e4 := cell_at (i := 4) hb0 rfl
  have e5 := cell_at (i := 5) hb0 rfl
  have e6 := cell_at (i := 6) hb0 rfl
  have hmkB : w.heap.size ≤ mb ∧ mb < kb ∧ kb < B := by omega
  have HS := Lib.hid (fun (wx : World) (k : All w wx) => hs.keep RRaw.ok k)
  have hmm := @run_makeMap Tryz.prog
  have HKB2 := Lib.hid (show kb = mb + 1 by omega)
  clear hb0 h1 hmb hkb hB hs
  go_enter Tryz.func81, Tryz.ntmps81
  go_wp2_with fail
  clear hmm
  simp only [← HMB.out]
  simp only [← HKB2.out]
  generalize ((w.alloc (.cells #[.slice a0 l0 c0, .slice a1 l1 c1, .slice a2 l2 c2, .slice a3 l3 c3, .slice a4 l4 c4, .int .i64 s.due, .int .i64 s.reply] 31)).alloc (.map #[] 0)).alloc (.cells #[.slice a0 l0 c0, .slice a1 l1 c1, .slice a2 l2 c2, .slice a3 l3 c3, .slice a4 l4 c4, .int .i64 s.due, .int .i64 s.reply, .map (some mb)] 105) = w4 at *
  clear e0 e1 e2 e3 e4 e5 e6
  have Hend := Lib.hid (show ∀ wx, But mb w4 wx → All w wx from fun wx hw => hka.trans2 hw (fun i hi _ e => by omega))
  have HKM := Lib.hid hkm
  have HM1 := Lib.hid hm1
  clear hka hkm hm1
  go_loopw [14] (fun i wr => ∃ k : Nat, k ≤ len ∧ i = .int .i64 k ∧ (∃ n vals, n ≤ k ∧ RowK Tryz.prog 39 RRaw 7 73 wr B mb n vals (bookF (ts.take k))) ∧ But mb w4 wr) (fun i _ => len - (intOf i).toNat)
  case atStart => exact ⟨0, Nat.zero_le _, rfl, ⟨0, _, Nat.le_refl _, HM1.out⟩, Kept.refl _ _⟩
  case round =>
    obtain ⟨k, hk, rfl, ⟨n, vals, hnk, hmap⟩, hwr⟩ := hrel
    obtain ⟨wo, rfl⟩ : ∃ wo : World, wo = wr := ⟨_, rfl⟩
    by_cases hlt : k < len
    · have hq := Hend.out _ hwr
      obtain ⟨b, off, ⟨x, aa, ac⟩, ha, -, c0, c1, c2, c3, c4, c5, c6, hsm, hx, htk⟩ := (HS.out _ hq).atRaw hlt
      subst ha
      dsimp only at c0 c1 c2 c3 c4 c5 c6 hsm
      have HX := Lib.hid htk
      obtain ⟨hx1, hx2, hx3, hx4⟩ := hsm
      have hko : All wo (wo.alloc (.cells #[.int .i64 x.no, .int .i64 x.tm, .string x.paper, .string x.person, .string x.by_, .bool x.done, .slice aa x.answers.length ac] 73)) := Kept.alloc _ _ _
      have hblk := heap_at wo (.cells #[.int .i64 x.no, .int .i64 x.tm, .string x.paper, .string x.person, .string x.by_, .bool x.done, .slice aa x.answers.length ac] 73) _ rfl
      have hwa : But mb w4 (wo.alloc (.cells #[.int .i64 x.no, .int .i64 x.tm, .string x.paper, .string x.person, .string x.by_, .bool x.done, .slice aa x.answers.length ac] 73)) := hwr.then_alloc _
      have hcw := hwr.heap HKM.out (show kb ≠ mb by omega)
      have hcm := hko.heap hcw trivial
      have hzo := hwr.size
      have hrow : ∀ i, (vals (x.paper, x.person)).ownBlock = some i → B ≤ i ∧ i < wo.heap.size := fun i hi => (hmap.acc _).lt i hi
      have hmapa : RowK Tryz.prog 39 RRaw 7 73 _ _ _ _ _ _ := RowK.keep flatRaw hmap hko
      have hfl : (bookF (ts.take k) (x.paper, x.person)).length + 1 ≤ 1000000000 := by
        have h1 := bookF_len (ts.take k) (x.paper, x.person)
        have h2 := List.length_take_le k ts
        omega
      obtain ⟨xb, hxb⟩ : ∃ q, q = wo.heap.size := ⟨_, rfl⟩
      have HXB := Lib.hid hxb
      rw [← hxb] at hblk hrow
      have hxo : kb < xb ∧ B ≤ xb := by omega
      have hza : xb < (wo.alloc (.cells #[.int .i64 x.no, .int .i64 x.tm, .string x.paper, .string x.person, .string x.by_, .bool x.done, .slice aa x.answers.length ac] 73)).heap.size := by rw [hxb]; simp
      clear hmap htk hko hx hq hxb hwr hcw
      go_upto_region 5 with fail
      simp only [← HXB.out]
      generalize wo.alloc (.cells #[.int .i64 x.no, .int .i64 x.tm, .string x.paper, .string x.person, .string x.by_, .bool x.done, .slice aa x.answers.length ac] 73) = wa at *
      clear c0 c1 c2 c3 c4 c5 c6
      have hBa : B ≤ wa.heap.size := by omega
      obtain ⟨vp, hvp⟩ : ∃ vp, vp = vals (x.paper, x.person) := ⟨_, rfl⟩
      have HVP := Lib.hid hvp
      have haccp := hmapa.acc (x.paper, x.person)
      rw [← hvp] at haccp
      have hokk : okK (x.paper, x.person) := ⟨hx1, hx2⟩
      have HLK := Lib.hid (fun (wx : World) (hk : Kept (fun i => (vals (x.paper, x.person)).ownBlock ≠ some i) wa wx) => (show (Instr.lookup 103 (.map (some mb)) (.agg #[.string x.paper, .string x.person]) false).run Tryz.prog wx = .ok vp wx by rw [hvp]; exact MapK.lookAfter hmapa.map hk (fun e => by have := (hrow _ e).1; omega) isK2P Tryz.underlying103 (Tryz.zeroValue32 wx) hmapa.nil hokk))
      have HEC := Lib.hid (fun (wx : World) (hk : Kept (fun i => (vals (x.paper, x.person)).ownBlock ≠ some i) wa wx) => hk.cell (cell_at (i := 7) hcm rfl) (fun e => by have := (hrow _ e).1; dsimp only at this; omega))
      have HEX := Lib.hid (fun (wx : World) (hk : Kept (fun i => (vals (x.paper, x.person)).ownBlock ≠ some i) wa wx) => hk.heap hblk (fun e => by have := (hrow _ e).2; omega))
      have hza2 : mb < wa.heap.size := by omega
      clear hvp hblk hcm
      refine wp_region_invL 16 (by kernel_rfl) (by kernel_rfl) (by kernel_rfl) (BkG wa (vals (x.paper, x.person)))
        (DL [QIs ((Value.pointer (some ⟨kb, 0, none⟩))), QIs ((Value.pointer (some ⟨kb, 0, none⟩))), QIs ((Value.pointer (some ⟨kb, 7, none⟩))), QIs (.map (some mb)), QIs (.agg #[.int .i64 x.no, .int .i64 x.tm, .string x.paper, .string x.person, .string x.by_, .bool x.done, .slice aa x.answers.length ac]), QIs (.agg #[.string x.paper, .string x.person]), QIs ((Value.pointer (some ⟨kb, 0, none⟩))), QIs ((Value.pointer (some ⟨kb, 0, none⟩))), QIs ((Value.pointer (some ⟨kb, 7, none⟩))), QIs (.map (some mb)), QIs (.agg #[.int .i64 x.no, .int .i64 x.tm, .string x.paper, .string x.person, .string x.by_, .bool x.done, .slice aa x.answers.length ac]), QIs (.agg #[.string x.paper, .string x.person]), QIs (vp), QIs (.agg #[.int .i64 x.no, .int .i64 x.tm, .string x.paper, .string x.person, .string x.by_, .bool x.done, .slice aa x.answers.length ac]), DNewC wa.heap.size #[.int .i64 x.no, .int .i64 x.tm, .string x.paper, .string x.person, .string x.by_, .bool x.done, .slice aa x.answers.length ac] 73, DAppK Tryz.prog 39 73 wa B mb n vals (bookF (ts.take k)) (x.paper, x.person) (x, aa, ac)]) (BkM (vals (x.paper, x.person))) ?_ ?_ ?_ ?_
      · intro i j v w w' hi hj hij hmm hd
        have hz : i = 0 ∨ i = 1 ∨ i = 2 ∨ i = 3 ∨ i = 4 ∨ i = 5 ∨ i = 6 ∨ i = 7 ∨ i = 8 ∨ i = 9 ∨ i = 10 ∨ i = 11 ∨ i = 12 ∨ i = 13 ∨ i = 14 ∨ i = 15 := by omega
        rcases hz with rfl | rfl | rfl | rfl | rfl | rfl | rfl | rfl | rfl | rfl | rfl | rfl | rfl | rfl | rfl | rfl
        · exact hd
        · exact hd
        · exact hd
        · exact hd
        · exact hd
        · exact hd
        · exact hd
        · exact hd
        · exact hd
        · exact hd
        · exact hd
        · exact hd
        · exact hd
        · exact hd
        · exact DNewC.keep hd (fun i hi => by have := (hrow i hi).2; omega) hmm
        · exact DAppK.keep hd (by rw [BkM, if_neg (show ¬ j = 15 by omega)] at hmm; exact hmm)
      · exact ⟨Kept.drew _ _, fun _ => Kept.drew _ _⟩
      · intro i o t ho hd hi L a' wx hg hL hdf hts hoth hdeps
        have hz : i = 0 ∨ i = 1 ∨ i = 2 ∨ i = 3 ∨ i = 4 ∨ i = 5 ∨ i = 6 ∨ i = 7 ∨ i = 8 ∨ i = 9 ∨ i = 10 ∨ i = 11 ∨ i = 12 ∨ i = 13 ∨ i = 14 ∨ i = 15 := by omega
        rcases hz with rfl | rfl | rfl | rfl | rfl | rfl | rfl | rfl | rfl | rfl | rfl | rfl | rfl | rfl | rfl | rfl
        · obtain rfl := Option.some.inj ho
          obtain rfl := Option.some.inj hd
          have e0 : a'.tmps.getD 5 undef = (Value.pointer (some ⟨kb, 0, none⟩)) := tmp_of ((hoth 5 (by decide)).trans rfl)
          clear hoth hdeps hdf hts ho
          refine wp_via (fun K' hK => ?_)
          have HK := Lib.hid hK
          clear hK
          go_simp
          exact HK.out _ _ ⟨_, rfl, bkG_all hg (by decide) (Kept.refl _ _), Kept.refl _ _, rfl⟩
        · obtain rfl := Option.some.inj ho
          obtain rfl := Option.some.inj hd
          have e0 : a'.tmps.getD 18 undef = (Value.pointer (some ⟨kb, 0, none⟩)) := hdeps 0 (by decide) 18 rfl
          clear hoth hdeps hdf hts ho
          refine wp_via (fun K' hK => ?_)
          have HK := Lib.hid hK
          clear hK
          go_simp
          exact HK.out _ _ ⟨_, rfl, bkG_all hg (by decide) (Kept.refl _ _), Kept.refl _ _, rfl⟩
        · obtain rfl := Option.some.inj ho
          obtain rfl := Option.some.inj hd
          have e0 : a'.tmps.getD 19 undef = (Value.pointer (some ⟨kb, 0, none⟩)) := hdeps 1 (by decide) 19 rfl
          clear hoth hdeps hdf hts ho
          refine wp_via (fun K' hK => ?_)
          have HK := Lib.hid hK
          clear hK
          go_simp
          exact HK.out _ _ ⟨_, rfl, bkG_all hg (by decide) (Kept.refl _ _), Kept.refl _ _, rfl⟩
        · obtain rfl := Option.some.inj ho
          obtain rfl := Option.some.inj hd
          have e0 : a'.tmps.getD 20 undef = (Value.pointer (some ⟨kb, 7, none⟩)) := hdeps 2 (by decide) 20 rfl
          have g0 := HEC.out wx hg.1
          clear hoth hdeps hdf hts ho
          refine wp_via (fun K' hK => ?_)
          have HK := Lib.hid hK
          clear hK
          go_simp
          exact HK.out _ _ ⟨_, rfl, bkG_all hg (by decide) (Kept.refl _ _), Kept.refl _ _, rfl⟩
        · obtain rfl := Option.some.inj ho
          obtain rfl := Option.some.inj hd
          have e0 : a'.tmps.getD 7 undef = (Value.pointer (some ⟨xb, 0, none⟩)) := tmp_of ((hoth 7 (by decide)).trans rfl)
          have hbx := HEX.out wx hg.1
          have g0 := cell_at (i := 0) hbx rfl
          have g1 := cell_at (i := 1) hbx rfl
          have g2 := cell_at (i := 2) hbx rfl
          have g3 := cell_at (i := 3) hbx rfl
          have g4 := cell_at (i := 4) hbx rfl
          have g5 := cell_at (i := 5) hbx rfl
          have g6 := cell_at (i := 6) hbx rfl
          clear hbx
          clear hoth hdeps hdf hts ho
          refine wp_via (fun K' hK => ?_)
          have HK := Lib.hid hK
          clear hK
          go_simp
          exact HK.out _ _ ⟨_, rfl, bkG_all hg (by decide) (Kept.refl _ _), Kept.refl _ _, rfl⟩
        · obtain rfl := Option.some.inj ho
          obtain rfl := Option.some.inj hd
          have e0 : a'.tmps.getD 22 undef = .agg #[.int .i64 x.no, .int .i64 x.tm, .string x.paper, .string x.person, .string x.by_, .bool x.done, .slice aa x.answers.length ac] := hdeps 4 (by decide) 22 rfl
          clear hoth hdeps hdf hts ho
          refine wp_via (fun K' hK => ?_)
          have HK := Lib.hid hK
          clear hK
          go_simp
          refine (pairOf_any _ _ _ _ _ _ _ _ _ wx).mono ?_
          rintro e w5 ⟨rfl, hw5⟩
          exact HK.out _ _ ⟨_, rfl, bkG_all hg (by decide) hw5, hw5, rfl⟩
        · obtain rfl := Option.some.inj ho
          obtain rfl := Option.some.inj hd
          have e0 : a'.tmps.getD 5 undef = (Value.pointer (some ⟨kb, 0, none⟩)) := tmp_of ((hoth 5 (by decide)).trans rfl)
          clear hoth hdeps hdf hts ho
          refine wp_via (fun K' hK => ?_)
          have HK := Lib.hid hK
          clear hK
          go_simp
          exact HK.out _ _ ⟨_, rfl, bkG_all hg (by decide) (Kept.refl _ _), Kept.refl _ _, rfl⟩
        · obtain rfl := Option.some.inj ho
          obtain rfl := Option.some.inj hd
          have e0 : a'.tmps.getD 24 undef = (Value.pointer (some ⟨kb, 0, none⟩)) := hdeps 6 (by decide) 24 rfl
          clear hoth hdeps hdf hts ho
          refine wp_via (fun K' hK => ?_)
          have HK := Lib.hid hK
          clear hK
          go_simp
          exact HK.out _ _ ⟨_, rfl, bkG_all hg (by decide) (Kept.refl _ _), Kept.refl _ _, rfl⟩
        · obtain rfl := Option.some.inj ho
          obtain rfl := Option.some.inj hd
          have e0 : a'.tmps.getD 25 undef = (Value.pointer (some ⟨kb, 0, none⟩)) := hdeps 7 (by decide) 25 rfl
          clear hoth hdeps hdf hts ho
          refine wp_via (fun K' hK => ?_)
          have HK := Lib.hid hK
          clear hK
          go_simp
          exact HK.out _ _ ⟨_, rfl, bkG_all hg (by decide) (Kept.refl _ _), Kept.refl _ _, rfl⟩
        · obtain rfl := Option.some.inj ho
          obtain rfl := Option.some.inj hd
          have e0 : a'.tmps.getD 26 undef = (Value.pointer (some ⟨kb, 7, none⟩)) := hdeps 8 (by decide) 26 rfl
          have g0 := HEC.out wx hg.1
          clear hoth hdeps hdf hts ho
          refine wp_via (fun K' hK => ?_)
          have HK := Lib.hid hK
          clear hK
          go_simp
          exact HK.out _ _ ⟨_, rfl, bkG_all hg (by decide) (Kept.refl _ _), Kept.refl _ _, rfl⟩
        · obtain rfl := Option.some.inj ho
          obtain rfl := Option.some.inj hd
          have e0 : a'.tmps.getD 7 undef = (Value.pointer (some ⟨xb, 0, none⟩)) := tmp_of ((hoth 7 (by decide)).trans rfl)
          have hbx := HEX.out wx hg.1
          have g0 := cell_at (i := 0) hbx rfl
          have g1 := cell_at (i := 1) hbx rfl
          have g2 := cell_at (i := 2) hbx rfl
          have g3 := cell_at (i := 3) hbx rfl
          have g4 := cell_at (i := 4) hbx rfl
          have g5 := cell_at (i := 5) hbx rfl
          have g6 := cell_at (i := 6) hbx rfl
          clear hbx
          clear hoth hdeps hdf hts ho
          refine wp_via (fun K' hK => ?_)
          have HK := Lib.hid hK
          clear hK
          go_simp
          exact HK.out _ _ ⟨_, rfl, bkG_all hg (by decide) (Kept.refl _ _), Kept.refl _ _, rfl⟩
        · obtain rfl := Option.some.inj ho
          obtain rfl := Option.some.inj hd
          have e0 : a'.tmps.getD 28 undef = .agg #[.int .i64 x.no, .int .i64 x.tm, .string x.paper, .string x.person, .string x.by_, .bool x.done, .slice aa x.answers.length ac] := hdeps 10 (by decide) 28 rfl
          clear hoth hdeps hdf hts ho
          refine wp_via (fun K' hK => ?_)
          have HK := Lib.hid hK
          clear hK
          go_simp
          refine (pairOf_any _ _ _ _ _ _ _ _ _ wx).mono ?_
          rintro e w5 ⟨rfl, hw5⟩
          exact HK.out _ _ ⟨_, rfl, bkG_all hg (by decide) hw5, hw5, rfl⟩
        · obtain rfl := Option.some.inj ho
          obtain rfl := Option.some.inj hd
          have e0 : a'.tmps.getD 27 undef = .map (some mb) := hdeps 9 (by decide) 27 rfl
          have e1 : a'.tmps.getD 29 undef = .agg #[.string x.paper, .string x.person] := hdeps 11 (by decide) 29 rfl
          have g1 := HLK.out wx hg.1
          clear hoth hdeps hdf hts ho
          refine wp_via (fun K' hK => ?_)
          have HK := Lib.hid hK
          clear hK
          go_simp
          exact HK.out _ _ ⟨_, rfl, bkG_all hg (by decide) (Kept.refl _ _), Kept.refl _ _, rfl⟩
        · obtain rfl := Option.some.inj ho
          obtain rfl := Option.some.inj hd
          have e0 : a'.tmps.getD 7 undef = (Value.pointer (some ⟨xb, 0, none⟩)) := tmp_of ((hoth 7 (by decide)).trans rfl)
          have hbx := HEX.out wx hg.1
          have g0 := cell_at (i := 0) hbx rfl
          have g1 := cell_at (i := 1) hbx rfl
          have g2 := cell_at (i := 2) hbx rfl
          have g3 := cell_at (i := 3) hbx rfl
          have g4 := cell_at (i := 4) hbx rfl
          have g5 := cell_at (i := 5) hbx rfl
          have g6 := cell_at (i := 6) hbx rfl
          clear hbx
          clear hoth hdeps hdf hts ho
          refine wp_via (fun K' hK => ?_)
          have HK := Lib.hid hK
          clear hK
          go_simp
          exact HK.out _ _ ⟨_, rfl, bkG_all hg (by decide) (Kept.refl _ _), Kept.refl _ _, rfl⟩
        · obtain rfl := Option.some.inj ho
          obtain rfl := Option.some.inj hd
          have e0 : a'.tmps.getD 31 undef = .agg #[.int .i64 x.no, .int .i64 x.tm, .string x.paper, .string x.person, .string x.by_, .bool x.done, .slice aa x.answers.length ac] := hdeps 13 (by decide) 31 rfl
          have e0' : a'.tmps[31]?.getD undef = .agg #[.int .i64 x.no, .int .i64 x.tm, .string x.paper, .string x.person, .string x.by_, .bool x.done, .slice aa x.answers.length ac] := by rw [← Array.getD_eq_getD_getElem?]; exact e0
          have hszx := hg.1.size
          clear hoth hdeps hdf hts ho
          refine wp_via (fun K' hK => ?_)
          have HK := Lib.hid hK
          clear hK
          go_simp
          exact HK.out _ _ ⟨_, rfl, bkG_all hg (by decide) (Kept.alloc _ _ _), Kept.alloc _ _ _, ⟨wx.heap.size, rfl, hszx, heap_at _ _ _ rfl⟩⟩
        · obtain rfl := Option.some.inj ho
          obtain rfl := Option.some.inj hd
          have e30 : a'.tmps.getD 30 undef = vp := hdeps 12 (by decide) 30 rfl
          obtain ⟨nb, e32, hnb1, hnb⟩ : DNewC wa.heap.size #[.int .i64 x.no, .int .i64 x.tm, .string x.paper, .string x.person, .string x.by_, .bool x.done, .slice aa x.answers.length ac] 73 (a'.tmps.getD 32 undef) wx := hdeps 14 (by decide) 32 rfl
          have hallx : All wa wx := hg.2 hL
          have hszx := hallx.size
          have hmapx : RowK Tryz.prog 39 RRaw 7 73 _ _ _ _ _ _ := RowK.keep flatRaw hmapa hallx
          have haccx := haccp.keepAll RRaw.ok hallx
          clear hoth hdeps hdf hts ho
          refine wp_via (fun K' hK => ?_)
          have HK := Lib.hid hK
          clear hK
          refine op_append1 RRaw.ok wx _ _ _ rfl B 73 (.agg #[.int .i64 0, .int .i64 0, .string ⟨#[]⟩, .string ⟨#[]⟩, .string ⟨#[]⟩, .bool false, .slice none 0 0]) 7 96 Tryz.underlying32 (by kernel_rfl) rfl (by decide) (fun _ => False) _ (bookF (ts.take k) (x.paper, x.person)) e30 haccx ⟨nb, 0, none⟩ 1 [.int .i64 x.no, .int .i64 x.tm, .string x.paper, .string x.person, .string x.by_, .bool x.done, .slice aa x.answers.length ac] e32 rfl (World.news_of_block hnb) (by simp [Value.oneCell']) (x, aa, ac) ⟨rfl, ⟨hx1, hx2, hx3, hx4⟩⟩ hfl (by decide) (by omega) ?_
          intro p7 c7 w7 hacc7 hgrow hat7
          rw [HVP.out] at hgrow hat7
          exact HK.out _ _ ⟨_, rfl, ⟨hg.1.grown hgrow (fun k hk => Or.inr (fun h => h hk)), fun h => absurd h (by simp)⟩, (Kept.refl _ _).grown hgrow (fun k hk => Or.inr (fun h => h hk)), ⟨wx, w7, p7, c7, rfl, hallx, hmapx, hacc7, hgrow, hat7, Kept.refl _ _⟩⟩
      · intro L wx f hg hd
        have e21 : f 21 = .map (some mb) := hd 3 21 (by decide) rfl
        have e23 : f 23 = .agg #[.string x.paper, .string x.person] := hd 5 23 (by decide) rfl
        obtain ⟨wy, w7, p7, c7, e33, hally, hmapy, hacc7, hgrow, hat7, hlat⟩ : DAppK Tryz.prog 39 73 wa B mb n vals (bookF (ts.take k)) (x.paper, x.person) (x, aa, ac) (f 33) wx := hd 15 33 (by decide) rfl
        rw [show dsts _ 16 = [18, 19, 20, 21, 22, 23, 24, 25, 26, 27, 28, 29, 30, 31, 32, 33] from by kernel_rfl]
        simp only [List.map_cons, List.map_nil, puts, Act.put, e21, e23, e33, List.drop_succ_cons, List.drop_zero]
        generalize f 18 = f18
        generalize f 19 = f19
        generalize f 20 = f20
        generalize f 22 = f22
        generalize f 24 = f24
        generalize f 25 = f25
        generalize f 26 = f26
        generalize f 27 = f27
        generalize f 28 = f28
        generalize f 29 = f29
        generalize f 30 = f30
        generalize f 31 = f31
        generalize f 32 = f32
        simp only [List.setIfInBounds_toArray, List.set_cons_zero, List.set_cons_succ]
        obtain ⟨w8, hput, hm8, hb8⟩ := RowK.putLate (te := 32) hmapy isK2P Tryz.underlying103 (by omega) hgrow hlat (by omega) hokk (Value.slice p7 ((bookF (ts.take k) (x.paper, x.person)).length + 1) c7)
        have hput' : _ := hput
        unfold valK at hput'
        have hpush := Lib.hid (RowK.pushLate flatRaw hmapy (by omega) hacc7 hgrow hat7 hlat hm8 hb8)
        have hk8 : But mb w4 w8 := (((hwa.trans (Kept.all hally)).grown hgrow (fun k hk => Or.inl (by have := (hrow _ hk).1; omega))).trans (Kept.all hlat)).trans hb8
        have hfe := Lib.hid (show (fun q => if q = (x.paper, x.person) then bookF (ts.take k) (x.paper, x.person) ++ [(x, aa, ac)] else bookF (ts.take k) q) = bookF (ts.take (k + 1)) from funext fun q => by
          rw [HX.out, bookF_snoc]
          by_cases hq : q = (x.paper, x.person)
          · subst hq; simp
          · simp [hq])
        clear hd e21 e23 e33 f hg hgrow hat7 hm8 hb8 hacc7 hmapy hmapa haccp hwa hally hlat hput
        go_wp2_with fail
        go_roundw
        case rel => exact ⟨k + 1, by omega, by go_num, ⟨n + 1, _, by omega, by rw [← hfe.out]; exact hpush.out⟩, hk8⟩
        case measure => simp [intOf]; omega
    · have hd : decide ((k : Int) < (len : Int)) = false := by simp; omega
      have hkl : k = len := by omega
      have HM := Lib.hid hmap
      have hfin := Lib.hid (hwr.heap HKM.out (show kb ≠ mb by omega))
      have hend := Lib.hid (Hend.out _ hwr)
      clear hmap hwr
      go_wp2_with fail
      go_ret
      refine ⟨⟨kb, rfl, mb, B, n, vals, hfin.out, ?_⟩, hend.out⟩
      have h := HM.out
      rw [List.take_of_length_le (by have := Hlen.out; omega)] at h
      exact h
end Go.Proofs.YtjbaijgdkkccbaaGreatDoor

/- slices.Backward of reviews: the iterator's contract. -/
namespace Go.Proofs.YtjbaijgdkkccbaaGreatDoor
open Go.RowKit Go.Shelf
attribute [local go_sem] Oper.semAt_some

def raw0 : Raw := (⟨0, 0, ⟨#[]⟩, ⟨#[]⟩, ⟨#[]⟩, false, []⟩, none, 0)
/-- The review at a place. -/
def rawAt (xs : List Raw) (i : Nat) : Raw := xs.getD i raw0
/-- What the round after j others hands out. -/
def bkAt (xs : List Raw) (j : Nat) : Nat × Raw := (xs.length - 1 - j, rawAt xs (xs.length - 1 - j))
/-- What has come when k rounds are over. -/
def bkTo (xs : List Raw) (k : Nat) : List (Nat × Raw) := (List.range k).map (bkAt xs)
theorem bkTo_succ (xs : List Raw) (k : Nat) : bkTo xs (k + 1) = bkTo xs k ++ [bkAt xs k] := by simp [bkTo, List.range_succ]
theorem bkTo_length (xs : List Raw) (k : Nat) : (bkTo xs k).length = k := by simp [bkTo]
theorem bkTo_all (xs : List Raw) : (bkTo xs xs.length).map (·.2) = xs.reverse := by
  refine List.ext_getElem? fun i => ?_
  rw [List.getElem?_map, bkTo, List.getElem?_map]
  by_cases hi : i < xs.length
  · rw [List.getElem?_range hi, List.getElem?_reverse hi]
    simp only [Option.map_some, bkAt, rawAt, List.getD_eq_getElem?_getD]
    rw [List.getElem?_eq_getElem (by omega)]
    rfl
  · rw [List.getElem?_eq_none (by simp; omega), List.getElem?_eq_none (by simp; omega)]
    rfl
theorem bkTo_take (xs : List Raw) {k : Nat} (hk : k ≤ xs.length) : (bkTo xs k).map (·.2) = xs.reverse.take k := by
  rw [← bkTo_all, ← List.map_take, bkTo, bkTo, ← List.map_take, List.take_range, Nat.min_eq_left hk]
/-- The two values of a round. -/
def encBk (x : Nat × Raw) : Array Value := #[.int .i64 (x.1 : Int), .agg #[.int .i64 x.2.1.no, .int .i64 x.2.1.tm, .string x.2.1.paper, .string x.2.1.person, .string x.2.1.by_, .bool x.2.1.done, .slice x.2.2.1 x.2.1.answers.length x.2.2.2]]

set_option maxRecDepth 100000 in
set_option maxHeartbeats 4000000 in
theorem bk1_in (F : Fence) (n : Nat) (h8 : F.fn 234) (hro : F.round = none) (hn : 1 ≤ n) (l Bs n₀ b off cap : Nat) (xs : List Raw) (len : Nat) (hl : xs.length = len) (hlz : len ≤ 1000000) (hb : b < n₀) (hBn : Bs < n₀) (J Jx : List (Nat × Raw) → World → Prop)
    (hY : ∀ pre x W, J pre W → pre.length < len → YieldAt F (n - 1) Tryz.prog l (encBk x) W fun e W' =>
      (e = .returned (.bool true) ∧ J (pre ++ [x]) W' ∧ Below n₀ W W') ∨ (e = .returned (.bool false) ∧ Jx (pre ++ [x]) W'))
    (W : World) (hBs : W.cell? ⟨Bs, 0, none⟩ = some (.slice (some ⟨b, off, none⟩) len cap))
    (hc : ∀ j, j < len → W.cell? ⟨b, off + j * 7, none⟩ = some (.int .i64 (rawAt xs j).1.no) ∧ W.cell? ⟨b, off + j * 7 + 1, none⟩ = some (.int .i64 (rawAt xs j).1.tm) ∧ W.cell? ⟨b, off + j * 7 + 2, none⟩ = some (.string (rawAt xs j).1.paper) ∧ W.cell? ⟨b, off + j * 7 + 3, none⟩ = some (.string (rawAt xs j).1.person) ∧ W.cell? ⟨b, off + j * 7 + 4, none⟩ = some (.string (rawAt xs j).1.by_) ∧ W.cell? ⟨b, off + j * 7 + 5, none⟩ = some (.bool (rawAt xs j).1.done) ∧ W.cell? ⟨b, off + j * 7 + 6, none⟩ = some (.slice (rawAt xs j).2.1 (rawAt xs j).1.answers.length (rawAt xs j).2.2)) (h0 : J [] W) :
    CallsIn F n Tryz.prog 234 #[.func (.yield l) #[] #[], .pointer (some ⟨Bs, 0, none⟩)] W fun e W' => (∃ v, e = .returned v) ∧
      ((∃ ys, ys = bkTo xs len ∧ J ys W') ∨ (∃ pre, (∃ k, k < len ∧ pre = bkTo xs (k + 1)) ∧ Jx pre W')) := by
  have HL := Lib.hid hl
  have HC := Lib.hid hc
  clear hc hl
  refine callsIn_of_wp Tryz.func234 rfl h8 ?_ hro
  simp only [Tryz.ntmps234, List.size_toArray, List.length_cons, List.length_nil, Nat.reduceAdd, Nat.reduceSub, Array.replicate_succ, Array.replicate_zero, List.push_toArray, List.append_toArray, List.nil_append, List.cons_append]
  have hw1 : IntKind.i64.wrap ((len : Int) - 1) = (len : Int) - 1 := IntWalk.i64_in _ (by omega)
  gi_wp2
  gi_loopw [3] (fun i wr => ∃ m : Nat, m ≤ len ∧ i = .int .i64 ((m : Int) - 1) ∧ J (bkTo xs (len - m)) wr ∧ Below n₀ W wr) (fun i _ => (intOf i + 1).toNat)
  case atStart => exact ⟨len, Nat.le_refl _, rfl, by simpa [bkTo] using h0, Below.refl _ _⟩
  case round =>
    obtain ⟨m, hm, rfl, hJs, hnx⟩ := hrel
    have hBs' := (hnx.cell (p := ⟨Bs, 0, none⟩) hBn).trans hBs
    cases m with
    | zero =>
      have hd : ((0 : Nat) : Int) - 1 = -1 := rfl
      rw [hd]
      gi_wp2
      go_end0
      exact ⟨⟨_, rfl⟩, .inl ⟨_, rfl, by simpa using hJs⟩⟩
    | succ m =>
      rw [show ((m + 1 : Nat) : Int) - 1 = (m : Int) by omega]
      have HJ := Lib.hid hJs
      have Hbk := Lib.hid (show bkAt xs (len - (m + 1)) = (m, rawAt xs m) from by rw [bkAt, HL.out, show len - 1 - (len - (m + 1)) = m by omega])
      obtain ⟨q0, q1, q2, q3, q4, q5, q6⟩ := HC.out m (by omega)
      have c0 := (hnx.cell (p := ⟨b, off + m * 7, none⟩) hb).trans q0
      have c1 := (hnx.cell (p := ⟨b, off + m * 7 + 1, none⟩) hb).trans q1
      have c2 := (hnx.cell (p := ⟨b, off + m * 7 + 2, none⟩) hb).trans q2
      have c3 := (hnx.cell (p := ⟨b, off + m * 7 + 3, none⟩) hb).trans q3
      have c4 := (hnx.cell (p := ⟨b, off + m * 7 + 4, none⟩) hb).trans q4
      have c5 := (hnx.cell (p := ⟨b, off + m * 7 + 5, none⟩) hb).trans q5
      have c6 := (hnx.cell (p := ⟨b, off + m * 7 + 6, none⟩) hb).trans q6
      obtain ⟨y, hy0⟩ : ∃ y, y = rawAt xs m := ⟨_, rfl⟩
      have HY0 := Lib.hid hy0
      rw [← hy0] at c0 c1 c2 c3 c4 c5 c6
      have hmi : (m : Int) < (len : Int) := by omega
      have hm0 : (0 : Int) ≤ (m : Int) := by omega
      have hwm : IntKind.i64.wrap ((m : Int) - 1) = (m : Int) - 1 := IntWalk.i64_in _ (by omega)
      clear q0 q1 q2 q3 q4 q5 q6 hy0
      obtain ⟨fn, tmps, assign, body, hy, hR⟩ := hY _ (m, y) wr hJs (by rw [bkTo_length]; omega)
      dsimp only [encBk] at hy
      clear hJs
      gi_wp2
      refine hR.mono ?_
      rintro e W3 (⟨rfl, hJ3, hk3⟩ | ⟨rfl, hJx3⟩)
      · gi_wp2
        go_roundw
        case rel => exact ⟨m, by omega, rfl, by rw [show len - m = len - (m + 1) + 1 by omega, bkTo_succ, Hbk.out, ← HY0.out]; exact hJ3, hnx.trans hk3⟩
        case measure => simp [intOf]
      · gi_wp2
        refine bodyPost_ret (results_none rfl _ _ _) rfl ?_
        exact ⟨⟨_, rfl⟩, .inr ⟨_, ⟨len - (m + 1), by omega, rfl⟩, by rw [bkTo_succ, Hbk.out, ← HY0.out]; exact hJx3⟩⟩

set_option maxRecDepth 100000 in
set_option maxHeartbeats 1000000 in
theorem bk1_nil_in (F : Fence) (n : Nat) (h8 : F.fn 234) (hro : F.round = none) (l Bs cap : Nat) (a : Option Addr) (J : List (Nat × Raw) → World → Prop) (W : World) (hBs : W.cell? ⟨Bs, 0, none⟩ = some (.slice a 0 cap)) (h0 : J [] W) :
    CallsIn F n Tryz.prog 234 #[.func (.yield l) #[] #[], .pointer (some ⟨Bs, 0, none⟩)] W fun e W' => (∃ v, e = .returned v) ∧ J [] W' := by
  refine callsIn_of_wp Tryz.func234 rfl h8 ?_ hro
  simp only [Tryz.ntmps234, List.size_toArray, List.length_cons, List.length_nil, Nat.reduceAdd, Nat.reduceSub, Array.replicate_succ, Array.replicate_zero, List.push_toArray, List.append_toArray, List.nil_append, List.cons_append]
  gi_wp2
  gi_loopw [3] (fun i wr => i = .int .i64 (-1) ∧ J [] wr) (fun _ _ => 0)
  case atStart => exact ⟨rfl, h0⟩
  case round =>
    obtain ⟨rfl, hJs⟩ := hrel
    gi_wp2
    go_end0
    exact ⟨⟨_, rfl⟩, hJs⟩

/-- Reviews in a row below n₀. -/
def RawsBelow (n₀ : Nat) (W : World) (a : Option Addr) (xs : List Raw) : Prop :=
  0 < xs.length → ∃ b off, a = some ⟨b, off, none⟩ ∧ b < n₀ ∧ ∀ j, j < xs.length → W.cell? ⟨b, off + j * 7, none⟩ = some (.int .i64 (rawAt xs j).1.no) ∧ W.cell? ⟨b, off + j * 7 + 1, none⟩ = some (.int .i64 (rawAt xs j).1.tm) ∧ W.cell? ⟨b, off + j * 7 + 2, none⟩ = some (.string (rawAt xs j).1.paper) ∧ W.cell? ⟨b, off + j * 7 + 3, none⟩ = some (.string (rawAt xs j).1.person) ∧ W.cell? ⟨b, off + j * 7 + 4, none⟩ = some (.string (rawAt xs j).1.by_) ∧ W.cell? ⟨b, off + j * 7 + 5, none⟩ = some (.bool (rawAt xs j).1.done) ∧ W.cell? ⟨b, off + j * 7 + 6, none⟩ = some (.slice (rawAt xs j).2.1 (rawAt xs j).1.answers.length (rawAt xs j).2.2)
theorem RawsBelow.below {n₀ : Nat} {A B : World} (h : Below n₀ A B) {a : Option Addr} {xs : List Raw} (k : RawsBelow n₀ A a xs) : RawsBelow n₀ B a xs := fun hl => by
  obtain ⟨b, off, ha, hb, hc⟩ := k hl
  refine ⟨b, off, ha, hb, fun j hj => ?_⟩
  obtain ⟨q0, q1, q2, q3, q4, q5, q6⟩ := hc j hj
  exact ⟨(h.cell (p := ⟨b, off + j * 7, none⟩) hb).trans q0, (h.cell (p := ⟨b, off + j * 7 + 1, none⟩) hb).trans q1, (h.cell (p := ⟨b, off + j * 7 + 2, none⟩) hb).trans q2, (h.cell (p := ⟨b, off + j * 7 + 3, none⟩) hb).trans q3, (h.cell (p := ⟨b, off + j * 7 + 4, none⟩) hb).trans q4, (h.cell (p := ⟨b, off + j * 7 + 5, none⟩) hb).trans q5, (h.cell (p := ⟨b, off + j * 7 + 6, none⟩) hb).trans q6⟩
theorem RawsBelow.mono {n₀ n₁ : Nat} {W : World} {a : Option Addr} {xs : List Raw} (h : n₀ ≤ n₁) (k : RawsBelow n₀ W a xs) : RawsBelow n₁ W a xs := fun hl => by
  obtain ⟨b, off, ha, hb, hc⟩ := k hl
  exact ⟨b, off, ha, Nat.lt_of_lt_of_le hb h, hc⟩
theorem Sl.rawsBelow {F : Nat → Prop} {w : World} {a : Option Addr} {len : Nat} {xs : List Raw} (h : Sl RRaw 7 F w a len xs) {n₀ : Nat} (hn : w.heap.size ≤ n₀) : RawsBelow n₀ w a xs := fun hl => by
  have hlen := h.len
  obtain ⟨b, off, x, ha, -, c0, -⟩ := h.atRaw (k := 0) (by omega)
  refine ⟨b, off, ha, Nat.lt_of_lt_of_le (lt_of_cell c0) hn, fun j hj => ?_⟩
  obtain ⟨b', off', y, ha', -, p0, p1, p2, p3, p4, p5, p6, -, hy, -⟩ := h.atRaw (k := j) (by omega)
  rw [ha] at ha'
  cases ha'
  have e : rawAt xs j = y := by rw [rawAt, List.getD_eq_getElem?_getD, hy]; rfl
  rw [e]
  exact ⟨p0, p1, p2, p3, p4, p5, p6⟩

theorem bk_stops (F : Fence) (n : Nat) (h8 : F.fn 234) (hro : F.round = none) (hn : 1 ≤ n) (Bs n₀ : Nat) (a : Option Addr) (cap : Nat) (xs : List Raw) (hlz : xs.length ≤ 1000000) (w : World) (hBs : Bs < n₀) (hn₀ : n₀ ≤ w.heap.size)
    (hc : w.cell? ⟨Bs, 0, none⟩ = some (.slice a xs.length cap)) (hI : RawsBelow n₀ w a xs) :
    SeqStopsK F n Tryz.prog 234 #[.pointer (some ⟨Bs, 0, none⟩)] encBk (Below n₀) (fun ys => ys = bkTo xs xs.length) (fun pre => ∃ k, k < xs.length ∧ pre = bkTo xs (k + 1)) xs.length w := fun l J Jx W hW _ _ hY h0 => by
  have hc' := (hW.cell (p := ⟨Bs, 0, none⟩) (show Bs < w.heap.size by omega)).trans hc
  have hI' := hI.below (hW.mono hn₀)
  rcases Nat.eq_zero_or_pos xs.length with hz | hp
  · rw [hz] at hc'
    refine (bk1_nil_in F n h8 hro l Bs cap a J W hc' h0).mono ?_
    rintro e W' ⟨he, hj⟩
    exact ⟨he, .inl ⟨[], by rw [hz]; rfl, hj⟩⟩
  · obtain ⟨b, off, rfl, hb, hcs⟩ := hI' hp
    exact bk1_in F n h8 hro hn l Bs n₀ b off cap xs xs.length rfl hlz hb hBs J Jx hY W hc' hcs h0
set_option maxHeartbeats 1000000 in
theorem bk_any (a : Option Addr) (len cap : Nat) (w : World) :
    Calls Tryz.prog 158 #[.slice a len cap] w fun e w' => e = .returned (.func (.func 234) #[] #[.pointer (some ⟨w.heap.size, 0, none⟩)]) ∧ w' = w.alloc (.cells #[.slice a len cap] 32) := by
  go_enter Tryz.func158, Tryz.ntmps158
  go_wp2_with fail
  go_ret
  exact ⟨rfl, rfl⟩
end Go.Proofs.YtjbaijgdkkccbaaGreatDoor
