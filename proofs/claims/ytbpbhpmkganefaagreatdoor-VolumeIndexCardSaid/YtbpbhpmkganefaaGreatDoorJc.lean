/- PaperOn, LeafOf: the reference's look-ups among leaves. -/
import Derived.Test.YtbpbhpmkganefaaGreatDoorJb
import Derived.Test.YtbpbhpmkganefaaGreatDoorVd
namespace Go.Proofs.YtbpbhpmkganefaaGreatDoor
open Go.RowKit


theorem box3 {w : World} {b : Nat} {t : TypeId} {a0 a1 a2 : Value} (h : w.heap[b]? = some (.cells #[a0, a1, a2] t (0, 0))) (u0 u1 u2 : Value) :
    (((w.setCell ⟨b, 0, none⟩ u0).setCell ⟨b, 1, none⟩ u1).setCell ⟨b, 2, none⟩ u2).heap[b]? = some (.cells #[u0, u1, u2] t (0, 0)) := by
  have h0 := heap_setCell_at w b 0 u0 _ _ _ h
  have h1 := heap_setCell_at _ b 1 u1 _ _ _ h0
  have h2 := heap_setCell_at _ b 2 u2 _ _ _ h1
  simpa using h2
def LeafPost (ls : List Leaf3) (p : ByteArray) (w : World) (e : Ending) (w' : World) : Prop :=
  (∀ x, leafOf ls p = some x → e = .returned (.tuple #[.agg #[.string x.paper, .int .i64 x.lo, .int .i64 x.hi], .bool true])) ∧ (leafOf ls p = none → e = .returned (.tuple #[.agg #[.string ⟨#[]⟩, .int .i64 0, .int .i64 0], .bool false])) ∧ All w w'
set_option maxRecDepth 100000 in
set_option maxHeartbeats 3200000 in
theorem leafOf_any (first : Int) (right : Bool) (av : Option Addr) (lv cv : Nat) (cs : List Chap) (af : Option Addr) (lf cf : Nat) (xs : List Fin4) (p : ByteArray) (w : World)
    (hv : Sl RChap 2 (fun _ => True) w av lv cs) (hf : Sl RFin 4 (fun _ => True) w af lf xs) (hlf : lf ≤ 1000) (hok : VolOk first right cs xs) :
    Calls Tryz.prog 10 #[.agg #[.int .i64 first, .bool right, .slice av lv cv], .slice af lf cf, .string p] w (LeafPost (lvs first right cs xs) p w) := by
  have OK := Lib.hid hok
  have hlv' : lv ≤ 40 := by have := hok.len; have := hv.len; omega
  have HRs := Lib.hid (finalsF_rises hok.fin)
  have hk0 : All w (w.alloc (.cells #[.int .i64 first, .bool right, .slice av lv cv] 30)) := Kept.alloc _ _ _
  have hblk := heap_at w (.cells #[.int .i64 first, .bool right, .slice av lv cv] 30) _ rfl
  have v0 := cell_at (i := 0) hblk rfl
  have v1 := cell_at (i := 1) hblk rfl
  have v2 := cell_at (i := 2) hblk rfl
  clear hblk hok
  have hk1 : All w ((w.alloc (.cells #[.int .i64 first, .bool right, .slice av lv cv] 30)).alloc (.cells #[.string ⟨#[]⟩, .int .i64 0, .int .i64 0] 42)) := hk0.then_alloc _
  have hrb : ((w.alloc (.cells #[.int .i64 first, .bool right, .slice av lv cv] 30)).alloc (.cells #[.string ⟨#[]⟩, .int .i64 0, .int .i64 0] 42)).heap[w.heap.size + 1]? = some (.cells #[.string ⟨#[]⟩, .int .i64 0, .int .i64 0] 42 (0, 0)) := heap_at _ _ _ (by simp)
  go_enter Tryz.func10, Tryz.ntmps10
  go_wp2_with fail
  refine (pagesOf_any first right av lv cv cs af lf cf xs _ (hv.keep RChap.ok hk1) (hf.keep RFin.ok hk1) hlv' hlf HRs.out.2 (chapsF_found OK.out.chap) OK.out.lo OK.out.hi).mono ?_
  rintro e w3 ⟨v, rfl, hacc, hw3⟩
  have hk3 := hk1.trans hw3
  have hrb3 := hw3.heap hrb trivial
  have hsz3 := hk3.size
  clear hrb
  obtain ⟨a, cap, rfl, hsl⟩ := hacc.sl RLeaf.ok (by decide) (G := fun _ => True) (fun _ h => h.elim) (fun _ _ => trivial)
  obtain ⟨ls, hls⟩ : ∃ ls, ls = leavesF xs right first (allP cs) := ⟨_, rfl⟩
  have HLS := Lib.hid hls
  rw [← hls] at hsl ⊢
  obtain ⟨n, hn⟩ : ∃ n, n = ls.length := ⟨_, rfl⟩
  have HN := Lib.hid hn
  have hn40 : n ≤ 40000 := by rw [hn, hls, leavesF_length]; exact hv.allP_le hlv'
  rw [← hn] at hsl ⊢
  clear hacc hn hls
  go_wp2_with fail
  go_loopw [14] (fun i wr => ∃ k : Nat, k ≤ n ∧ i = .int .i64 k ∧ NotF (isP p) ls k ∧ All w3 wr) (fun i _ => n - (intOf i).toNat)
  case atStart => exact ⟨0, Nat.zero_le _, rfl, NotF.zero _ _, Kept.refl _ _⟩
  case round =>
    obtain ⟨k, hk, rfl, hnot, hwr⟩ := hrel
    have HNF := Lib.hid hnot
    clear hnot
    by_cases hlt : k < n
    · obtain ⟨b, o, x, ha, -, c0, c1, c2, hz, hx, -, -⟩ := (hsl.keep RLeaf.ok hwr).atLeaf hlt
      subst ha
      have Hx := Lib.hid hx
      clear hx
      have hrbx := heap_old (.cells #[.string x.paper, .int .i64 x.lo, .int .i64 x.hi] 42) (hwr.heap hrb3 trivial)
      have r0 := cell_at (i := 0) hrbx rfl
      have r1 := cell_at (i := 1) hrbx rfl
      have r2 := cell_at (i := 2) hrbx rfl
      have z0 := frozen_at (i := 0) hrbx
      have z1 := frozen_at (i := 1) hrbx
      have z2 := frozen_at (i := 2) hrbx
      have hfin := box3 hrbx (.string x.paper) (.int .i64 x.lo) (.int .i64 x.hi)
      have q0 := cell_at (i := 0) hfin rfl
      have q1 := cell_at (i := 1) hfin rfl
      have q2 := cell_at (i := 2) hfin rfl
      clear hrbx hfin
      by_cases hon : x.paper = p
      · have don : (x.paper.toList == p.toList) = true := by simp [hon]
        have Hon := Lib.hid hon
        clear hon
        go_wp2_with fail
        have hfo : leafOf (lvs first right cs xs) p = some x := by
          rw [lvs, ← HLS.out, leafOf_eq, HNF.out.found Hx.out (by simp [isP, Hon.out])]
        refine bodyPost_ret (v := .tuple #[.agg #[.string x.paper, .int .i64 x.lo, .int .i64 x.hi], .bool true]) ?_ rfl ⟨fun y hy => by rw [hfo] at hy; injection hy with hy; subst hy; rfl, (fun h => by rw [hfo] at h; cases h), ((((hk3.trans (hwr.then_alloc _)).then_setNew _ _ (by simp)).then_setNew _ _ (by simp)).then_setNew _ _ (by simp))⟩
        simp [results, Tryz.results10, go_sem, q0, q1, q2]
      · have don : (x.paper.toList == p.toList) = false := by
          rw [beq_eq_false_iff_ne]
          intro e
          exact hon (by rw [tl_data, tl_data] at e; exact Go.WideShapes.bytes_inj e)
        have Hon := Lib.hid hon
        clear hon
        go_wp2_with fail
        go_roundw
        case rel => exact ⟨k + 1, by omega, by go_num, HNF.out.next Hx.out (by simp [isP, Hon.out]), hwr.then_alloc _⟩
        case measure => simp [intOf]; omega
    · have hd : decide ((k : Int) < (n : Int)) = false := by simp; omega
      have hrbx := hwr.heap hrb3 trivial
      have r0 := cell_at (i := 0) hrbx rfl
      have r1 := cell_at (i := 1) hrbx rfl
      have r2 := cell_at (i := 2) hrbx rfl
      have z0 := frozen_at (i := 0) hrbx
      have z1 := frozen_at (i := 1) hrbx
      have z2 := frozen_at (i := 2) hrbx
      have hfin := box3 hrbx (.string ⟨#[]⟩) (.int .i64 0) (.int .i64 0)
      have q0 := cell_at (i := 0) hfin rfl
      have q1 := cell_at (i := 1) hfin rfl
      have q2 := cell_at (i := 2) hfin rfl
      clear hrbx hfin
      go_wp2_with fail
      have hfo : leafOf (lvs first right cs xs) p = none := by
        rw [lvs, ← HLS.out, leafOf_eq, HNF.out.none (by have := HN.out; omega)]
      refine bodyPost_ret (v := .tuple #[.agg #[.string ⟨#[]⟩, .int .i64 0, .int .i64 0], .bool false]) ?_ rfl ⟨(fun y hy => by rw [hfo] at hy; cases hy), fun _ => rfl, ((((hk3.trans hwr).then_setNew _ _ (by simp)).then_setNew _ _ (by simp)).then_setNew _ _ (by simp))⟩
      simp [results, Tryz.results10, go_sem, q0, q1, q2]
end Go.Proofs.YtbpbhpmkganefaaGreatDoor
