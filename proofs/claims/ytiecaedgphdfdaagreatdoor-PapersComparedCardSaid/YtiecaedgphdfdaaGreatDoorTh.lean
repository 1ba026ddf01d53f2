/- DecideRules. -/
import Derived.Test.YtiecaedgphdfdaaGreatDoorZi
import Derived.Test.YtiecaedgphdfdaaGreatDoorRd
namespace Go.Proofs.YtiecaedgphdfdaaGreatDoor
open Go.RowKit

/-- A slice of at most ten numbers. -/
def PBy (σ : St) (v : Value) (w : World) : Prop := ∃ (ap : Option Addr) (cp : Nat) (xs : List Int), v = .slice ap xs.length cp ∧ xs.length ≤ cp ∧ xs.length ≤ 10 ∧ (xs = [] ∨ ∃ b, ap = some ⟨b, 0, none⟩ ∧ b ≠ σ.b ∧ w.heap[b]? = some (.cells (xs.map (Value.int .i64)).toArray 3 (0, 0)))
theorem PBy.stays (σ : St) : Stays (fun w w' => But σ.b w w') (PBy σ) := fun _ _ _ k ⟨ap, cp, xs, h1, h2, h3, h4⟩ => ⟨ap, cp, xs, h1, h2, h3, h4.imp id fun ⟨b, e1, e2, e3⟩ => ⟨b, e1, e2, k.heap e3 e2⟩⟩
def PBys (σ : St) (v : Value) (w : World) : Prop := ∃ b, v = .slice (some ⟨b, 0, none⟩) 10 10 ∧ b ≠ σ.b ∧ ∀ j, j < 10 → ∃ u, w.cell? ⟨b, j, none⟩ = some u ∧ PBy σ u w
theorem PBys.stays (σ : St) : Stays (fun w w' => But σ.b w w') (PBys σ) := fun _ _ _ k ⟨b, h1, h2, h3⟩ => ⟨b, h1, h2, fun j hj => by obtain ⟨u, hu, hb⟩ := h3 j hj; exact ⟨u, k.cell hu h2, PBy.stays σ _ _ _ k hb⟩⟩
def PByAt (σ : St) (v : Value) (w : World) : Prop := ∃ b j, v = .pointer (some ⟨b, j, none⟩) ∧ b ≠ σ.b ∧ ∃ u, w.cell? ⟨b, j, none⟩ = some u ∧ PBy σ u w
theorem PByAt.stays (σ : St) : Stays (fun w w' => But σ.b w w') (PByAt σ) := fun _ _ _ k ⟨b, j, h1, h2, u, hu, hb⟩ => ⟨b, j, h1, h2, u, k.cell hu h2, PBy.stays σ _ _ _ k hb⟩
/-- The rules. -/
def PRules (σ : St) (v : Value) (w : World) : Prop := ∃ u r, v = .agg #[u, .int .i64 r] ∧ PBy σ u w
theorem PRules.stays (σ : St) : Stays (fun w w' => But σ.b w w') (PRules σ) := fun _ _ _ k ⟨u, r, h1, hb⟩ => ⟨u, r, h1, PBy.stays σ _ _ _ k hb⟩

theorem heap_type {w : World} {b c : Nat} {x y : Array Value} {t s : TypeId} {f g : Nat × Nat} (h : w.heap[b]? = some (.cells x t f)) (h2 : w.heap[c]? = some (.cells y s g)) (hts : t ≠ s) : b ≠ c := fun e => by
  rw [e, h2] at h
  injection h with h
  injection h with _ h _
  exact hts h.symm
/-- Such a slice, read. -/
theorem PBy.sl {σ : St} {u : Value} {w : World} (h : PBy σ u w) : ∃ (ap : Option Addr) (n cp : Nat) (xs : List Int), u = .slice ap n cp ∧ n ≤ cp ∧ n ≤ 10 ∧ Sl RInt 1 (fun k => k ≠ σ.b) w ap n xs := by
  obtain ⟨ap, cp, xs, h1, h2, h3, h4⟩ := h
  refine ⟨ap, xs.length, cp, xs, h1, h2, h3, ?_⟩
  rcases h4 with rfl | ⟨b, rfl, hb, hbl⟩
  · exact Sl.nil _ _ _ _ _
  · exact Sl.lit_ints xs hbl rfl hb
theorem PBy.keepOff {σ : St} {u : Value} {w w' : World} {b : Nat} {c : Array Value} {t : TypeId} {f : Nat × Nat} (h : PBy σ u w) (hb : w.heap[b]? = some (.cells c t f)) (hts : 3 ≠ t) (k : Kept (fun k => k ≠ b) w w') : PBy σ u w' := by
  obtain ⟨ap, cp, xs, h1, h2, h3, h4⟩ := h
  refine ⟨ap, cp, xs, h1, h2, h3, h4.imp id fun ⟨b', e1, e2, e3⟩ => ⟨b', e1, e2, k.heap e3 (heap_type e3 hb hts)⟩⟩

set_option maxRecDepth 100000 in
set_option maxHeartbeats 3200000 in
theorem decideRules_any (σ : St) (n : Nat) (w : World) (hs : Str σ w n) (hn : n ≤ 4611686018427380000) :
    Calls Tryz.prog 21 #[.pointer (some ⟨σ.b, 0, none⟩)] w (StPost σ n 100 w (PRules σ)) := by
  have hlt0 := hs.lt
  have HS := Lib.hid hs
  have hrb := heap_at w (.cells #[.slice none 0 0, .int .i64 0] 52) _ rfl
  have HRB := Lib.hid hrb
  clear hrb
  go_enter Tryz.func21, Tryz.ntmps21
  go_wp2_with fail
  refine wp_region_inv 20 (by kernel_rfl) (by kernel_rfl) (by kernel_rfl) (GStr 1 σ n (w.alloc (.cells #[.slice none 0 0, .int .i64 0] 52)))
    (DL [PRow σ [1], PRow σ [1, 2], PRow σ [3, 1], PRow σ [4, 5, 1], PRow σ [5], PRow σ [2, 3], PRow σ [1, 1], PRow σ [0], PRow σ [6], PBys σ, PIs (.pointer (some ⟨σ.b, 0, none⟩)), PRow σ [0, 1, 1, 2, 3, 4, 5, 6, 7, 8, 9], PNum (fun r => 0 ≤ r ∧ r < 10), PByAt σ, PBy σ, PIs (.pointer (some ⟨σ.b, 0, none⟩)), PRow σ [0, 0, 50, 60, 100, -1, 101], PNum (fun _ => True), PRules σ, PNew σ (w.heap.size + 1) 52 #[.slice none 0 0, .int .i64 0]]) (fun w w' => But σ.b w w')
    (DL.keep (by simp only [List.forall_mem_cons, List.not_mem_nil, false_implies, implies_true, and_true]; exact ⟨PRow.stays _ _, PRow.stays _ _, PRow.stays _ _, PRow.stays _ _, PRow.stays _ _, PRow.stays _ _, PRow.stays _ _, PRow.stays _ _, PRow.stays _ _, PBys.stays _, PIs.stays _ _, PRow.stays _ _, PNum.stays _ _, PByAt.stays _, PBy.stays _, PIs.stays _ _, PRow.stays _ _, PNum.stays _ _, PRules.stays _, PNew.stays _ _ _ _⟩)) ?_ ?_ ?_
  · exact ⟨n, Nat.le_refl _, by omega, HS.out.keep (by repeat (first | exact Kept.refl _ _ | refine Kept.then_drew ?_ | refine Kept.then_alloc ?_ _)), by repeat (first | exact Kept.refl _ _ | refine Kept.then_drew ?_ | refine Kept.then_alloc ?_ _)⟩
  · intro i o t ho hd hi k a wx hk hg hdf hts hoth hdeps
    obtain ⟨m, hm1, hm2, hst, hbut⟩ := hg
    have hlt := hst.lt
    have hszx : w.heap.size + 1 ≤ wx.heap.size := by have := hbut.size; simpa using this
    have h20 : i = 0 ∨ i = 1 ∨ i = 2 ∨ i = 3 ∨ i = 4 ∨ i = 5 ∨ i = 6 ∨ i = 7 ∨ i = 8 ∨ i = 9 ∨ i = 10 ∨ i = 11 ∨ i = 12 ∨ i = 13 ∨ i = 14 ∨ i = 15 ∨ i = 16 ∨ i = 17 ∨ i = 18 ∨ i = 19 := by omega
    rcases h20 with rfl | rfl | rfl | rfl | rfl | rfl | rfl | rfl | rfl | rfl | rfl | rfl | rfl | rfl | rfl | rfl | rfl | rfl | rfl | rfl
    · obtain rfl := Option.some.inj ho
      obtain rfl := Option.some.inj hd
      clear hoth hdeps hdf hts ho
      refine wp_via (fun K' hK => ?_)
      have HK := Lib.hid hK
      clear hK
      go_simp
      exact HK.out _ _ ⟨_, rfl, GStr.alloc _ hm1 hm2 hst hbut, Kept.alloc _ _ _, ⟨wx.heap.size, rfl, Nat.ne_of_gt hlt, heap_at _ _ _ rfl⟩⟩
    · obtain rfl := Option.some.inj ho
      obtain rfl := Option.some.inj hd
      clear hoth hdeps hdf hts ho
      refine wp_via (fun K' hK => ?_)
      have HK := Lib.hid hK
      clear hK
      go_simp
      exact HK.out _ _ ⟨_, rfl, GStr.alloc _ hm1 hm2 hst hbut, Kept.alloc _ _ _, ⟨wx.heap.size, rfl, Nat.ne_of_gt hlt, heap_at _ _ _ rfl⟩⟩
    · obtain rfl := Option.some.inj ho
      obtain rfl := Option.some.inj hd
      clear hoth hdeps hdf hts ho
      refine wp_via (fun K' hK => ?_)
      have HK := Lib.hid hK
      clear hK
      go_simp
      exact HK.out _ _ ⟨_, rfl, GStr.alloc _ hm1 hm2 hst hbut, Kept.alloc _ _ _, ⟨wx.heap.size, rfl, Nat.ne_of_gt hlt, heap_at _ _ _ rfl⟩⟩
    · obtain rfl := Option.some.inj ho
      obtain rfl := Option.some.inj hd
      clear hoth hdeps hdf hts ho
      refine wp_via (fun K' hK => ?_)
      have HK := Lib.hid hK
      clear hK
      go_simp
      exact HK.out _ _ ⟨_, rfl, GStr.alloc _ hm1 hm2 hst hbut, Kept.alloc _ _ _, ⟨wx.heap.size, rfl, Nat.ne_of_gt hlt, heap_at _ _ _ rfl⟩⟩
    · obtain rfl := Option.some.inj ho
      obtain rfl := Option.some.inj hd
      clear hoth hdeps hdf hts ho
      refine wp_via (fun K' hK => ?_)
      have HK := Lib.hid hK
      clear hK
      go_simp
      exact HK.out _ _ ⟨_, rfl, GStr.alloc _ hm1 hm2 hst hbut, Kept.alloc _ _ _, ⟨wx.heap.size, rfl, Nat.ne_of_gt hlt, heap_at _ _ _ rfl⟩⟩
    · obtain rfl := Option.some.inj ho
      obtain rfl := Option.some.inj hd
      clear hoth hdeps hdf hts ho
      refine wp_via (fun K' hK => ?_)
      have HK := Lib.hid hK
      clear hK
      go_simp
      exact HK.out _ _ ⟨_, rfl, GStr.alloc _ hm1 hm2 hst hbut, Kept.alloc _ _ _, ⟨wx.heap.size, rfl, Nat.ne_of_gt hlt, heap_at _ _ _ rfl⟩⟩
    · obtain rfl := Option.some.inj ho
      obtain rfl := Option.some.inj hd
      clear hoth hdeps hdf hts ho
      refine wp_via (fun K' hK => ?_)
      have HK := Lib.hid hK
      clear hK
      go_simp
      exact HK.out _ _ ⟨_, rfl, GStr.alloc _ hm1 hm2 hst hbut, Kept.alloc _ _ _, ⟨wx.heap.size, rfl, Nat.ne_of_gt hlt, heap_at _ _ _ rfl⟩⟩
    · obtain rfl := Option.some.inj ho
      obtain rfl := Option.some.inj hd
      clear hoth hdeps hdf hts ho
      refine wp_via (fun K' hK => ?_)
      have HK := Lib.hid hK
      clear hK
      go_simp
      exact HK.out _ _ ⟨_, rfl, GStr.alloc _ hm1 hm2 hst hbut, Kept.alloc _ _ _, ⟨wx.heap.size, rfl, Nat.ne_of_gt hlt, heap_at _ _ _ rfl⟩⟩
    · obtain rfl := Option.some.inj ho
      obtain rfl := Option.some.inj hd
      clear hoth hdeps hdf hts ho
      refine wp_via (fun K' hK => ?_)
      have HK := Lib.hid hK
      clear hK
      go_simp
      exact HK.out _ _ ⟨_, rfl, GStr.alloc _ hm1 hm2 hst hbut, Kept.alloc _ _ _, ⟨wx.heap.size, rfl, Nat.ne_of_gt hlt, heap_at _ _ _ rfl⟩⟩
    · obtain rfl := Option.some.inj ho
      obtain rfl := Option.some.inj hd
      obtain ⟨b0, e0, n0, h0⟩ : PRow σ [1] (a.tmps.getD 4 undef) wx := hdeps 0 (by decide) 4 rfl
      replace e0 : a.tmps.getD 4 undef = .slice (some ⟨b0, 0, none⟩) 1 1 := e0
      have q0 : PBy σ (.slice (some ⟨b0, 0, none⟩) 1 1) wx := ⟨some ⟨b0, 0, none⟩, 1, [1], rfl, by decide, by decide, Or.inr ⟨b0, rfl, n0, h0⟩⟩
      clear h0
      have e0q : a.tmps[4]?.getD undef = .slice (some ⟨b0, 0, none⟩) 1 1 := by rw [← Array.getD_eq_getD_getElem?]; exact e0
      obtain ⟨b1, e1, n1, h1⟩ : PRow σ [1, 2] (a.tmps.getD 5 undef) wx := hdeps 1 (by decide) 5 rfl
      replace e1 : a.tmps.getD 5 undef = .slice (some ⟨b1, 0, none⟩) 2 2 := e1
      have q1 : PBy σ (.slice (some ⟨b1, 0, none⟩) 2 2) wx := ⟨some ⟨b1, 0, none⟩, 2, [1, 2], rfl, by decide, by decide, Or.inr ⟨b1, rfl, n1, h1⟩⟩
      clear h1
      have e1q : a.tmps[5]?.getD undef = .slice (some ⟨b1, 0, none⟩) 2 2 := by rw [← Array.getD_eq_getD_getElem?]; exact e1
      obtain ⟨b2, e2, n2, h2⟩ : PRow σ [3, 1] (a.tmps.getD 6 undef) wx := hdeps 2 (by decide) 6 rfl
      replace e2 : a.tmps.getD 6 undef = .slice (some ⟨b2, 0, none⟩) 2 2 := e2
      have q2 : PBy σ (.slice (some ⟨b2, 0, none⟩) 2 2) wx := ⟨some ⟨b2, 0, none⟩, 2, [3, 1], rfl, by decide, by decide, Or.inr ⟨b2, rfl, n2, h2⟩⟩
      clear h2
      have e2q : a.tmps[6]?.getD undef = .slice (some ⟨b2, 0, none⟩) 2 2 := by rw [← Array.getD_eq_getD_getElem?]; exact e2
      obtain ⟨b3, e3, n3, h3⟩ : PRow σ [4, 5, 1] (a.tmps.getD 7 undef) wx := hdeps 3 (by decide) 7 rfl
      replace e3 : a.tmps.getD 7 undef = .slice (some ⟨b3, 0, none⟩) 3 3 := e3
      have q3 : PBy σ (.slice (some ⟨b3, 0, none⟩) 3 3) wx := ⟨some ⟨b3, 0, none⟩, 3, [4, 5, 1], rfl, by decide, by decide, Or.inr ⟨b3, rfl, n3, h3⟩⟩
      clear h3
      have e3q : a.tmps[7]?.getD undef = .slice (some ⟨b3, 0, none⟩) 3 3 := by rw [← Array.getD_eq_getD_getElem?]; exact e3
      obtain ⟨b4, e4, n4, h4⟩ : PRow σ [5] (a.tmps.getD 8 undef) wx := hdeps 4 (by decide) 8 rfl
      replace e4 : a.tmps.getD 8 undef = .slice (some ⟨b4, 0, none⟩) 1 1 := e4
      have q4 : PBy σ (.slice (some ⟨b4, 0, none⟩) 1 1) wx := ⟨some ⟨b4, 0, none⟩, 1, [5], rfl, by decide, by decide, Or.inr ⟨b4, rfl, n4, h4⟩⟩
      clear h4
      have e4q : a.tmps[8]?.getD undef = .slice (some ⟨b4, 0, none⟩) 1 1 := by rw [← Array.getD_eq_getD_getElem?]; exact e4
      obtain ⟨b5, e5, n5, h5⟩ : PRow σ [2, 3] (a.tmps.getD 9 undef) wx := hdeps 5 (by decide) 9 rfl
      replace e5 : a.tmps.getD 9 undef = .slice (some ⟨b5, 0, none⟩) 2 2 := e5
      have q5 : PBy σ (.slice (some ⟨b5, 0, none⟩) 2 2) wx := ⟨some ⟨b5, 0, none⟩, 2, [2, 3], rfl, by decide, by decide, Or.inr ⟨b5, rfl, n5, h5⟩⟩
      clear h5
      have e5q : a.tmps[9]?.getD undef = .slice (some ⟨b5, 0, none⟩) 2 2 := by rw [← Array.getD_eq_getD_getElem?]; exact e5
      obtain ⟨b6, e6, n6, h6⟩ : PRow σ [1, 1] (a.tmps.getD 10 undef) wx := hdeps 6 (by decide) 10 rfl
      replace e6 : a.tmps.getD 10 undef = .slice (some ⟨b6, 0, none⟩) 2 2 := e6
      have q6 : PBy σ (.slice (some ⟨b6, 0, none⟩) 2 2) wx := ⟨some ⟨b6, 0, none⟩, 2, [1, 1], rfl, by decide, by decide, Or.inr ⟨b6, rfl, n6, h6⟩⟩
      clear h6
      have e6q : a.tmps[10]?.getD undef = .slice (some ⟨b6, 0, none⟩) 2 2 := by rw [← Array.getD_eq_getD_getElem?]; exact e6
      obtain ⟨b7, e7, n7, h7⟩ : PRow σ [0] (a.tmps.getD 11 undef) wx := hdeps 7 (by decide) 11 rfl
      replace e7 : a.tmps.getD 11 undef = .slice (some ⟨b7, 0, none⟩) 1 1 := e7
      have q7 : PBy σ (.slice (some ⟨b7, 0, none⟩) 1 1) wx := ⟨some ⟨b7, 0, none⟩, 1, [0], rfl, by decide, by decide, Or.inr ⟨b7, rfl, n7, h7⟩⟩
      clear h7
      have e7q : a.tmps[11]?.getD undef = .slice (some ⟨b7, 0, none⟩) 1 1 := by rw [← Array.getD_eq_getD_getElem?]; exact e7
      obtain ⟨b8, e8, n8, h8⟩ : PRow σ [6] (a.tmps.getD 12 undef) wx := hdeps 8 (by decide) 12 rfl
      replace e8 : a.tmps.getD 12 undef = .slice (some ⟨b8, 0, none⟩) 1 1 := e8
      have q8 : PBy σ (.slice (some ⟨b8, 0, none⟩) 1 1) wx := ⟨some ⟨b8, 0, none⟩, 1, [6], rfl, by decide, by decide, Or.inr ⟨b8, rfl, n8, h8⟩⟩
      clear h8
      have e8q : a.tmps[12]?.getD undef = .slice (some ⟨b8, 0, none⟩) 1 1 := by rw [← Array.getD_eq_getD_getElem?]; exact e8
      have qn : PBy σ (.slice none 0 0) wx := ⟨_, _, [], rfl, by decide, by decide, Or.inl rfl⟩
      clear hoth hdeps hdf hts ho
      refine wp_via (fun K' hK => ?_)
      have HK := Lib.hid hK
      clear hK
      go_simp
      refine HK.out _ _ ⟨_, rfl, GStr.alloc _ hm1 hm2 hst hbut, Kept.alloc _ _ _, ⟨wx.heap.size, rfl, Nat.ne_of_gt hlt, fun j hj => ?_⟩⟩
      have hj10 : j = 0 ∨ j = 1 ∨ j = 2 ∨ j = 3 ∨ j = 4 ∨ j = 5 ∨ j = 6 ∨ j = 7 ∨ j = 8 ∨ j = 9 := by omega
      rcases hj10 with rfl | rfl | rfl | rfl | rfl | rfl | rfl | rfl | rfl | rfl
      · exact ⟨_, cell_at (i := 0) (heap_at _ _ _ rfl) rfl, PBy.stays σ _ _ _ (Kept.alloc _ _ _) q0⟩
      · exact ⟨_, cell_at (i := 1) (heap_at _ _ _ rfl) rfl, PBy.stays σ _ _ _ (Kept.alloc _ _ _) q1⟩
      · exact ⟨_, cell_at (i := 2) (heap_at _ _ _ rfl) rfl, PBy.stays σ _ _ _ (Kept.alloc _ _ _) q2⟩
      · exact ⟨_, cell_at (i := 3) (heap_at _ _ _ rfl) rfl, PBy.stays σ _ _ _ (Kept.alloc _ _ _) q3⟩
      · exact ⟨_, cell_at (i := 4) (heap_at _ _ _ rfl) rfl, PBy.stays σ _ _ _ (Kept.alloc _ _ _) q4⟩
      · exact ⟨_, cell_at (i := 5) (heap_at _ _ _ rfl) rfl, PBy.stays σ _ _ _ (Kept.alloc _ _ _) q5⟩
      · exact ⟨_, cell_at (i := 6) (heap_at _ _ _ rfl) rfl, PBy.stays σ _ _ _ (Kept.alloc _ _ _) qn⟩
      · exact ⟨_, cell_at (i := 7) (heap_at _ _ _ rfl) rfl, PBy.stays σ _ _ _ (Kept.alloc _ _ _) q6⟩
      · exact ⟨_, cell_at (i := 8) (heap_at _ _ _ rfl) rfl, PBy.stays σ _ _ _ (Kept.alloc _ _ _) q7⟩
      · exact ⟨_, cell_at (i := 9) (heap_at _ _ _ rfl) rfl, PBy.stays σ _ _ _ (Kept.alloc _ _ _) q8⟩
    · obtain rfl := Option.some.inj ho
      obtain rfl := Option.some.inj hd
      have e0 := tmp_of (hoth 0 (by decide))
      clear hoth hdeps hdf hts ho
      refine wp_via (fun K' hK => ?_)
      have HK := Lib.hid hK
      clear hK
      go_simp
      exact HK.out _ _ ⟨_, rfl, GStr.same hm1 hm2 hst hbut, Kept.refl _ _, rfl⟩
    · obtain rfl := Option.some.inj ho
      obtain rfl := Option.some.inj hd
      clear hoth hdeps hdf hts ho
      refine wp_via (fun K' hK => ?_)
      have HK := Lib.hid hK
      clear hK
      go_simp
      exact HK.out _ _ ⟨_, rfl, GStr.alloc _ hm1 hm2 hst hbut, Kept.alloc _ _ _, ⟨wx.heap.size, rfl, Nat.ne_of_gt hlt, heap_at _ _ _ rfl⟩⟩
    · obtain rfl := Option.some.inj ho
      obtain rfl := Option.some.inj hd
      have ep : a.tmps.getD 14 undef = (.pointer (some ⟨σ.b, 0, none⟩)) := hdeps 10 (by decide) 14 rfl
      obtain ⟨br, er, hrn, hr⟩ : PRow σ [0, 1, 1, 2, 3, 4, 5, 6, 7, 8, 9] (a.tmps.getD 15 undef) wx := hdeps 11 (by decide) 15 rfl
      replace er : a.tmps.getD 15 undef = .slice (some ⟨br, 0, none⟩) 11 11 := er
      clear hoth hdeps hdf hts ho
      refine wp_via (fun K' hK => ?_)
      have HK := Lib.hid hK
      clear hK
      go_simp
      refine (pick_any σ m _ _ _ [0, 1, 1, 2, 3, 4, 5, 6, 7, 8, 9] _ hst (by omega) (Sl.lit_ints _ hr rfl hrn) (by simp) (by simp)).mono ?_
      rintro e w2 ⟨v, m2, rfl, ⟨r, rfl, hr2⟩, hm3, hm4, hst2, hb2⟩
      exact HK.out _ _ ⟨_, rfl, GStr.call hm1 hm2 hbut hm3 hm4 hst2 hb2, hb2, ⟨r, rfl, by simp at hr2; omega⟩⟩
    · obtain rfl := Option.some.inj ho
      obtain rfl := Option.some.inj hd
      obtain ⟨b, e13, hb, hcs⟩ : PBys σ (a.tmps.getD 13 undef) wx := hdeps 9 (by decide) 13 rfl
      obtain ⟨r, e16, hr1, hr2⟩ : PNum (fun r => 0 ≤ r ∧ r < 10) (a.tmps.getD 16 undef) wx := hdeps 12 (by decide) 16 rfl
      obtain ⟨j, rfl⟩ := Int.eq_ofNat_of_zero_le hr1
      have hj : j < 10 := by omega
      obtain ⟨u, hu, hby⟩ := hcs j hj
      clear hcs
      clear hoth hdeps hdf hts ho
      refine wp_via (fun K' hK => ?_)
      have HK := Lib.hid hK
      clear hK
      go_simp
      exact HK.out _ _ ⟨_, rfl, GStr.same hm1 hm2 hst hbut, Kept.refl _ _, ⟨b, j, rfl, hb, u, hu, hby⟩⟩
    · obtain rfl := Option.some.inj ho
      obtain rfl := Option.some.inj hd
      obtain ⟨b, j, e17, hb, u, hu, hby⟩ : PByAt σ (a.tmps.getD 17 undef) wx := hdeps 13 (by decide) 17 rfl
      have HBY := Lib.hid hby
      obtain ⟨ap, cp, xs, rfl, -, -, -⟩ := hby
      clear hoth hdeps hdf hts ho
      refine wp_via (fun K' hK => ?_)
      have HK := Lib.hid hK
      clear hK
      go_simp
      exact HK.out _ _ ⟨_, rfl, GStr.same hm1 hm2 hst hbut, Kept.refl _ _, HBY.out⟩
    · obtain rfl := Option.some.inj ho
      obtain rfl := Option.some.inj hd
      have e0 := tmp_of (hoth 0 (by decide))
      clear hoth hdeps hdf hts ho
      refine wp_via (fun K' hK => ?_)
      have HK := Lib.hid hK
      clear hK
      go_simp
      exact HK.out _ _ ⟨_, rfl, GStr.same hm1 hm2 hst hbut, Kept.refl _ _, rfl⟩
    · obtain rfl := Option.some.inj ho
      obtain rfl := Option.some.inj hd
      clear hoth hdeps hdf hts ho
      refine wp_via (fun K' hK => ?_)
      have HK := Lib.hid hK
      clear hK
      go_simp
      exact HK.out _ _ ⟨_, rfl, GStr.alloc _ hm1 hm2 hst hbut, Kept.alloc _ _ _, ⟨wx.heap.size, rfl, Nat.ne_of_gt hlt, heap_at _ _ _ rfl⟩⟩
    · obtain rfl := Option.some.inj ho
      obtain rfl := Option.some.inj hd
      have ep : a.tmps.getD 19 undef = (.pointer (some ⟨σ.b, 0, none⟩)) := hdeps 15 (by decide) 19 rfl
      obtain ⟨br, er, hrn, hr⟩ : PRow σ [0, 0, 50, 60, 100, -1, 101] (a.tmps.getD 20 undef) wx := hdeps 16 (by decide) 20 rfl
      replace er : a.tmps.getD 20 undef = .slice (some ⟨br, 0, none⟩) 7 7 := er
      clear hoth hdeps hdf hts ho
      refine wp_via (fun K' hK => ?_)
      have HK := Lib.hid hK
      clear hK
      go_simp
      refine (pick_any σ m _ _ _ [0, 0, 50, 60, 100, -1, 101] _ hst (by omega) (Sl.lit_ints _ hr rfl hrn) (by simp) (by simp)).mono ?_
      rintro e w2 ⟨v, m2, rfl, ⟨r, rfl, hr2⟩, hm3, hm4, hst2, hb2⟩
      exact HK.out _ _ ⟨_, rfl, GStr.call hm1 hm2 hbut hm3 hm4 hst2 hb2, hb2, ⟨r, rfl, trivial⟩⟩
    · obtain rfl := Option.some.inj ho
      obtain rfl := Option.some.inj hd
      have hby : PBy σ (a.tmps.getD 18 undef) wx := hdeps 14 (by decide) 18 rfl
      obtain ⟨r, e21, -⟩ : PNum (fun _ => True) (a.tmps.getD 21 undef) wx := hdeps 17 (by decide) 21 rfl
      obtain ⟨ap, cp, xs, e18, hx1, hx2, hx3⟩ := hby
      have e18q : a.tmps[18]?.getD undef = .slice ap xs.length cp := by rw [← Array.getD_eq_getD_getElem?]; exact e18
      have e21q : a.tmps[21]?.getD undef = .int .i64 r := by rw [← Array.getD_eq_getD_getElem?]; exact e21
      clear hoth hdeps hdf hts ho
      refine wp_via (fun K' hK => ?_)
      have HK := Lib.hid hK
      clear hK
      go_simp
      exact HK.out _ _ ⟨_, rfl, GStr.same hm1 hm2 hst hbut, Kept.refl _ _, ⟨_, r, rfl, ⟨ap, cp, xs, rfl, hx1, hx2, hx3⟩⟩⟩
    · obtain rfl := Option.some.inj ho
      obtain rfl := Option.some.inj hd
      clear hoth hdeps hdf hts ho
      refine wp_via (fun K' hK => ?_)
      have HK := Lib.hid hK
      clear hK
      go_simp
      exact HK.out _ _ ⟨_, rfl, GStr.alloc _ hm1 hm2 hst hbut, Kept.alloc _ _ _, ⟨wx.heap.size, rfl, hszx, Nat.ne_of_gt hlt, heap_at _ _ _ rfl⟩⟩
  · intro wx f hg hd
    obtain ⟨m, hm1, hm2, hst, hbut⟩ := hg
    obtain ⟨u, r, e22, hby⟩ : PRules σ (f 22) wx := hd 18 22 (by decide) rfl
    obtain ⟨b, e3, hb1, hb2, hb3⟩ : PNew σ (w.heap.size + 1) 52 #[.slice none 0 0, .int .i64 0] (f 3) wx := hd 19 3 (by decide) rfl
    obtain ⟨ap, cp, xs, rfl, hx1, hx2, hx3⟩ := hby
    rw [show dsts _ 20 = [4, 5, 6, 7, 8, 9, 10, 11, 12, 13, 14, 15, 16, 17, 18, 19, 20, 21, 22, 3] from by kernel_rfl]
    simp only [List.map_cons, List.map_nil, puts, Act.put, e22, e3, List.drop_succ_cons, List.drop_zero]
    generalize f 4 = f4
    generalize f 5 = f5
    generalize f 6 = f6
    generalize f 7 = f7
    generalize f 8 = f8
    generalize f 9 = f9
    generalize f 10 = f10
    generalize f 11 = f11
    generalize f 12 = f12
    generalize f 13 = f13
    generalize f 14 = f14
    generalize f 15 = f15
    generalize f 16 = f16
    generalize f 17 = f17
    generalize f 18 = f18
    generalize f 19 = f19
    generalize f 20 = f20
    generalize f 21 = f21
    have hrb := hbut.heap HRB.out (by omega)
    have q0 := cell_at (i := 0) hb3 rfl
    have q1 := cell_at (i := 1) hb3 rfl
    have y0 := frozen_at (i := 0) hb3
    have y1 := frozen_at (i := 1) hb3
    have c0 := cell_at (i := 0) hrb rfl
    have c1 := cell_at (i := 1) hrb rfl
    have z0 := frozen_at (i := 0) hrb
    have z1 := frozen_at (i := 1) hrb
    have hk1 : But σ.b w wx := Kept.trans (Kept.alloc _ _ _) hbut
    have hbw : w.heap.size ≠ b := by omega
    have hfin := box2' (Kept.heap (F := fun k => k ≠ b) (((Kept.refl _ wx).then_setCell ⟨b, 0, none⟩ (.slice ap xs.length cp) (by simp)).then_setCell ⟨b, 1, none⟩ (.int .i64 r) (by simp)) hrb hbw) (.slice ap xs.length cp) (.int .i64 r)
    have HN := Lib.hid (fun b' (h : wx.heap[b']? = some (Obj.cells (xs.map (Value.int .i64)).toArray 3 (0, 0))) => heap_type h hb3 (by decide))
    have HN2 := Lib.hid (fun b' (h : wx.heap[b']? = some (Obj.cells (xs.map (Value.int .i64)).toArray 3 (0, 0))) => heap_type h hrb (by decide))
    clear hd hrb hb3
    go_wp2_with fail
    have hkb : Kept (fun k => k ≠ b ∧ k ≠ w.heap.size) wx ((((wx.setCell ⟨b, 0, none⟩ (.slice ap xs.length cp)).setCell ⟨b, 1, none⟩ (.int .i64 r)).setCell ⟨w.heap.size, 0, none⟩ (.slice ap xs.length cp)).setCell ⟨w.heap.size, 1, none⟩ (.int .i64 r)) := ((((Kept.refl _ _).then_setCell _ _ (by simp)).then_setCell _ _ (by simp)).then_setCell _ _ (by simp)).then_setCell _ _ (by simp)
    have r0 := cell_at (i := 0) hfin rfl
    have r1 := cell_at (i := 1) hfin rfl
    refine bodyPost_ret (v := .agg #[.slice ap xs.length cp, .int .i64 r]) ?_ rfl ⟨_, m, rfl, ⟨_, r, rfl, ap, cp, xs, rfl, hx1, hx2, hx3.imp id fun ⟨b', g1, g2, g3⟩ => ⟨b', g1, g2, hkb.heap g3 ⟨HN.out b' g3, HN2.out b' g3⟩⟩⟩, hm1, by omega, ((((hst.set _ _ (by dsimp only; omega)).set _ _ (by dsimp only; omega)).set _ _ hlt0).set _ _ hlt0), (((hk1.then_setNew _ _ (by dsimp only; omega)).then_setNew _ _ (by dsimp only; omega)).then_setNew _ _ (by simp)).then_setNew _ _ (by simp)⟩
    simp [results, Tryz.results21, go_sem, r0, r1]
end Go.Proofs.YtiecaedgphdfdaaGreatDoor
