/- without and missing answer minusB; leavers; moves. -/
import Derived.Test.YtllkemadaemjeaaGreatDoorDa
import Derived.Test.YtllkemadaemjeaaGreatDoorKc
import Derived.Test.YtllkemadaemjeaaGreatDoorYc
import Derived.Test.YtllkemadaemjeaaGreatDoorSo
namespace Go.Proofs.YtllkemadaemjeaaGreatDoor
open Go.RowKit

/-- A search in strings that rise finds what is there. -/
theorem search_found {ss : List ByteArray} (hr : RisesB ss) (x : ByteArray) :
    decide (Lib.bsGo (fun t => Op.bytesLess (ss.getD t ByteArray.empty).toList x.toList) ss.length 0 ss.length < ss.length ∧ ss.getD (Lib.bsGo (fun t => Op.bytesLess (ss.getD t ByteArray.empty).toList x.toList) ss.length 0 ss.length) ByteArray.empty = x) = memB x ss := by
  -- the number of those that are less
  obtain ⟨k, hk, h1, h2⟩ : ∃ k, k ≤ ss.length ∧ (∀ t, t < k → Op.bytesLess (ss.getD t ByteArray.empty).toList x.toList = true) ∧ (∀ t, k ≤ t → t < ss.length → Op.bytesLess (ss.getD t ByteArray.empty).toList x.toList = false) := by
    induction ss with
    | nil => exact ⟨0, Nat.le_refl _, fun t h => absurd h (by omega), fun t _ h => absurd h (by simp)⟩
    | cons y l ih =>
      unfold RisesB at hr
      rw [List.pairwise_cons] at hr
      by_cases hy : Op.bytesLess y.toList x.toList = true
      · obtain ⟨k, hk, h1, h2⟩ := ih hr.2
        refine ⟨k + 1, by simp; omega, fun t ht => ?_, fun t ht htl => ?_⟩
        · cases t with
          | zero => simpa using hy
          | succ t => simpa using h1 t (by omega)
        · cases t with
          | zero => omega
          | succ t => simpa using h2 t (by omega) (by simpa using htl)
      · refine ⟨0, by simp, fun t h => absurd h (by omega), fun t _ htl => ?_⟩
        cases t with
        | zero => simpa using hy
        | succ t =>
          simp only [List.length_cons] at htl
          have ht : t < l.length := by omega
          have hm : l[t] ∈ l := List.getElem_mem _
          have h3 := hr.1 _ hm
          have e : (y :: l).getD (t + 1) ByteArray.empty = l[t] := by simp [List.getD_eq_getElem?_getD, ht]
          rw [e, Bool.eq_false_iff]
          intro h4
          exact hy (bl_trans h3 h4)
  have hgo : Lib.bsGo (fun t => Op.bytesLess (ss.getD t ByteArray.empty).toList x.toList) ss.length 0 ss.length = k := by
    have hs : ∀ (less less' : Nat → Bool), (∀ t, t < ss.length → less t = less' t) → ∀ f lo hi, hi ≤ ss.length → Lib.bsGo less f lo hi = Lib.bsGo less' f lo hi := by
      intro less less' he f
      induction f with
      | zero => intro lo hi _; rfl
      | succ f ih =>
        intro lo hi hh
        simp only [Lib.bsGo]
        by_cases hlt : lo < hi
        · simp only [hlt, if_true]
          rw [he _ (by omega), ih _ _ hh, ih _ _ (by omega)]
        · simp only [hlt, if_false]
    rw [hs _ (fun t => decide (t < k)) (fun t ht => by
      by_cases h : t < k
      · rw [h1 t h]; simp [h]
      · rw [h2 t (by omega) ht]; simp [h]) _ _ _ (Nat.le_refl _)]
    exact Lib.bsGo_spec _ k (fun t ht => by simp [ht]) (fun t ht => by simp; omega) _ _ _ (by omega) (by omega) hk
  rw [hgo]
  by_cases hx : x ∈ ss
  · rw [memB_true hx]
    obtain ⟨i, hi, rfl⟩ := List.getElem_of_mem hx
    have gi : ss.getD i ByteArray.empty = ss[i] := by simp [List.getD_eq_getElem?_getD, List.getElem?_eq_getElem hi]
    have hki : k = i := by
      rcases Nat.lt_trichotomy k i with h | h | h
      · exfalso
        have h3 := h2 k (Nat.le_refl _) (by omega)
        have gk : ss.getD k ByteArray.empty = ss[k] := by simp [List.getD_eq_getElem?_getD, List.getElem?_eq_getElem (show k < ss.length by omega)]
        rw [gk] at h3
        have h4 := List.pairwise_iff_getElem.1 hr k i (by omega) hi h
        rw [h4] at h3; cases h3
      · exact h
      · exfalso
        have h3 := h1 i h
        rw [gi, bl_irrefl] at h3
        cases h3
    rw [hki]
    simp [hi]
  · rw [memB_false hx]
    rw [decide_eq_false_iff_not]
    rintro ⟨h3, h4⟩
    apply hx
    rw [← h4, List.getD_eq_getElem?_getD, List.getElem?_eq_getElem h3]
    exact List.getElem_mem _

theorem binSearchS_any (a : Option Addr) (len cap : Nat) (ss : List ByteArray) (x : ByteArray) (w : World) (hs : Sl RStr 1 (fun _ => True) w a len ss) (hl : len ≤ 1000000) (hr : RisesB ss) :
    Calls Tryz.prog 108 #[.slice a len cap, .string x] w fun e w' => (∃ n : Int, e = .returned (.tuple #[.int .i64 n, .bool (memB x ss)])) ∧ All w w' := by
  have hlen := hs.len
  rcases Nat.eq_zero_or_pos len with h0 | h0
  · subst h0
    have hx : ss = [] := List.eq_nil_of_length_eq_zero hlen
    subst hx
    refine (Tryz.slices_BinarySearch_string_empty a cap x w).mono ?_
    rintro e w' ⟨rfl, rfl⟩
    exact ⟨⟨0, by simp [memB]⟩, Kept.refl _ _⟩
  · obtain ⟨b, off, rfl, -, hc⟩ := hs.strs h0
    refine (Tryz.slices_BinarySearch_string b off len cap (fun t => ss.getD t ByteArray.empty) x w (by omega) (fun j hj => (hc j hj).1)).mono ?_
    rintro e w' ⟨rfl, q, rfl⟩
    have hf := search_found hr x
    rw [hlen] at hf
    exact ⟨⟨_, by rw [hf]⟩, Kept.drewN _ _ _⟩

theorem without1_any (bb : Nat) (a : Option Addr) (len cap : Nat) (ss : List ByteArray) (x : ByteArray) (w : World) (hb : w.cell? ⟨bb, 0, none⟩ = some (.slice a len cap)) (hs : Sl RStr 1 (fun _ => True) w a len ss) (hl : len ≤ 1000000) (hr : RisesB ss) :
    Calls Tryz.prog 107 #[.string x, .pointer (some ⟨bb, 0, none⟩)] w fun e w' => e = .returned (.bool (memB x ss)) ∧ All w w' := by
  have hB := Lib.hid (binSearchS_any a len cap ss x w hs hl hr)
  clear hs hr
  go_enter Tryz.func107, Tryz.ntmps107
  go_wp2_with fail
  refine hB.out.mono ?_
  rintro e w' ⟨⟨n, rfl⟩, hw⟩
  go_wp2_with fail
  go_ret
  exact ⟨rfl, hw⟩
theorem missing1_any (bb : Nat) (a : Option Addr) (len cap : Nat) (ss : List ByteArray) (x : ByteArray) (w : World) (hb : w.cell? ⟨bb, 0, none⟩ = some (.slice a len cap)) (hs : Sl RStr 1 (fun _ => True) w a len ss) (hl : len ≤ 1000000) :
    Calls Tryz.prog 116 #[.string x, .pointer (some ⟨bb, 0, none⟩)] w fun e w' => e = .returned (.bool (memB x ss)) ∧ All w w' := by
  have hB := Lib.hid (contains_any a len cap ss x w hs hl)
  clear hs
  go_enter Tryz.func116, Tryz.ntmps116
  go_wp2_with fail
  refine hB.out.mono ?_
  rintro e w' ⟨rfl, hw⟩
  subst hw
  go_wp2_with fail
  go_ret
  exact ⟨rfl, Kept.refl _ _⟩

/-- A slice of strings of the call's own. -/
def OwnStrs (ss : List ByteArray) (w : World) (e : Ending) (w' : World) : Prop :=
  ∃ p c, e = .returned (.slice p ss.length c) ∧ Acc RStr 1 9 (fun _ => False) w.heap.size w' (.slice p ss.length c) ss ∧ All w w'
theorem OwnStrs.sl {ss : List ByteArray} {w w' : World} {p : Option Addr} {c : Nat} {G : Nat → Prop} (h : Acc RStr 1 9 (fun _ => False) w.heap.size w' (.slice p ss.length c) ss) (hG : ∀ k, w.heap.size ≤ k → G k) : Sl RStr 1 G w' p ss.length ss := by
  obtain ⟨a, cap, hv, hs⟩ := h.sl RStr.ok (by decide) (G := G) (fun _ h => h.elim) (fun k hk => hG k (h.lt k hk).1)
  cases hv
  exact hs

set_option maxHeartbeats 1600000 in
theorem without_any (a1 : Option Addr) (l1 c1 : Nat) (xs : List ByteArray) (a2 : Option Addr) (l2 c2 : Nat) (ys : List ByteArray) (w : World) (h1 : Sl RStr 1 (fun _ => True) w a1 l1 xs) (hl1 : l1 ≤ 1000000) (h2 : Sl RStr 1 (fun _ => True) w a2 l2 ys) (hl2 : l2 ≤ 1000000) (hr : RisesB ys) :
    Calls Tryz.prog 58 #[.slice a1 l1 c1, .slice a2 l2 c2] w (OwnStrs (minusB xs ys) w) := by
  have HXL := Lib.hid h1.len
  have hk1 : All w (w.alloc (.cells #[.slice a2 l2 c2] 26)) := Kept.alloc _ _ _
  have hblk := heap_at w (.cells #[.slice a2 l2 c2] 26) _ rfl
  have HC := Lib.hid (fun wx (k : All (w.alloc (.cells #[.slice a2 l2 c2] 26)) wx) => k.cell (cell_at (i := 0) hblk rfl) trivial)
  have HS1 := Lib.hid (h1.keep RStr.ok hk1)
  have HS2 := Lib.hid ((((h2.live RStr.ok (by decide)).mono RStr.ok (G := fun k => k < w.heap.size) (fun k hk => hk.2)).keep RStr.ok (Kept.all hk1)))
  have Hsz := Lib.hid (show w.heap.size < (w.alloc (.cells #[.slice a2 l2 c2] 26)).heap.size by simp)
  have Hsz2 := Lib.hid (show w.heap.size ≤ (w.alloc (.cells #[.slice a2 l2 c2] 26)).heap.size by simp)
  have eg : ∀ args w, (callFunc 107 args).run Tryz.prog w = .ok (.enter 107 args) w := enters_of Tryz.func107 (by kernel_rfl) rfl
  have hmin : keptA (fun x => memB x ys) xs = minusB xs ys := rfl
  have HMIN := Lib.hid hmin
  clear h1 h2 hblk hmin
  obtain ⟨bb, hbb⟩ : ∃ bb, bb = w.heap.size := ⟨_, rfl⟩
  have Hbb := Lib.hid hbb
  rw [← hbb] at HC HS2 Hsz Hsz2
  clear hbb
  go_enter Tryz.func58, Tryz.ntmps58
  go_wp2_with fail
  rw [← Hbb.out]
  generalize w.alloc (.cells #[.slice a2 l2 c2] 26) = w1 at *
  refine (cloneStr_any a1 l1 c1 xs _ HS1.out hl1).mono ?_
  rintro e w2 ⟨p, c, rfl, hacc, hw2⟩
  rw [HXL.out] at hacc ⊢
  have hlt : ∀ k, (Value.slice p l1 c).ownBlock = some k → bb < k ∧ bb ≤ k := fun k hk => by have := (hacc.lt k hk).1; have := Hsz.out; omega
  go_wp2_with fail
  refine (deleteFuncStr_any 107 #[.pointer (some ⟨bb, 0, none⟩)] eg (fun x => memB x ys) _ xs _ hacc (by have := HXL.out; omega) (fun y hy wx hk => ?_)).mono ?_
  · have hc2 := HC.out w2 hw2
    have hcx := hk.cell hc2 (fun e => by have := (hlt _ e).1; dsimp only at this; omega)
    have hsx : Sl RStr 1 (fun _ => True) wx a2 l2 ys := ((HS2.out.keep RStr.ok (Kept.all hw2)).keep RStr.ok (hk.mono (fun k hkk e => by have := (hlt _ e).2; omega))).mono RStr.ok (fun _ _ => trivial)
    exact without1_any bb a2 l2 c2 ys y wx hcx hsx hl2 hr
  · rintro e w3 ⟨p3, c3, rfl, hacc3, hk3, -⟩
    have hall : All w1 w3 := hw2.trans2 hk3 (fun i hi _ e => by have := (hacc.lt i e).1; omega)
    rw [HMIN.out] at hacc3 ⊢
    have HA := Lib.hid hacc3
    have hbase := Hsz2.out
    clear hacc hacc3 hk3 hlt
    obtain ⟨m, hm⟩ : ∃ m, m = (minusB xs ys).length := ⟨_, rfl⟩
    have HM := Lib.hid hm
    rw [← hm] at HA ⊢
    clear hm
    go_wp2_with fail
    go_ret
    exact ⟨p3, c3, by rw [HM.out]; rfl, by rw [← HM.out, ← Hbb.out]; exact HA.out.base0 hbase, hk1.trans hall⟩

set_option maxHeartbeats 1600000 in
theorem missing_any (a1 : Option Addr) (l1 c1 : Nat) (xs : List ByteArray) (a2 : Option Addr) (l2 c2 : Nat) (ys : List ByteArray) (w : World) (h1 : Sl RStr 1 (fun _ => True) w a1 l1 xs) (hl1 : l1 ≤ 1000000) (h2 : Sl RStr 1 (fun _ => True) w a2 l2 ys) (hl2 : l2 ≤ 1000000) :
    Calls Tryz.prog 64 #[.slice a1 l1 c1, .slice a2 l2 c2] w (OwnStrs (minusB xs ys) w) := by
  have HXL := Lib.hid h1.len
  have hk1 : All w (w.alloc (.cells #[.slice a2 l2 c2] 26)) := Kept.alloc _ _ _
  have hblk := heap_at w (.cells #[.slice a2 l2 c2] 26) _ rfl
  have HC := Lib.hid (fun wx (k : All (w.alloc (.cells #[.slice a2 l2 c2] 26)) wx) => k.cell (cell_at (i := 0) hblk rfl) trivial)
  have HS1 := Lib.hid (h1.keep RStr.ok hk1)
  have HS2 := Lib.hid ((((h2.live RStr.ok (by decide)).mono RStr.ok (G := fun k => k < w.heap.size) (fun k hk => hk.2)).keep RStr.ok (Kept.all hk1)))
  have Hsz := Lib.hid (show w.heap.size < (w.alloc (.cells #[.slice a2 l2 c2] 26)).heap.size by simp)
  have Hsz2 := Lib.hid (show w.heap.size ≤ (w.alloc (.cells #[.slice a2 l2 c2] 26)).heap.size by simp)
  have eg : ∀ args w, (callFunc 116 args).run Tryz.prog w = .ok (.enter 116 args) w := enters_of Tryz.func116 (by kernel_rfl) rfl
  have hmin : keptA (fun x => memB x ys) xs = minusB xs ys := rfl
  have HMIN := Lib.hid hmin
  clear h1 h2 hblk hmin
  obtain ⟨bb, hbb⟩ : ∃ bb, bb = w.heap.size := ⟨_, rfl⟩
  have Hbb := Lib.hid hbb
  rw [← hbb] at HC HS2 Hsz Hsz2
  clear hbb
  go_enter Tryz.func64, Tryz.ntmps64
  go_wp2_with fail
  rw [← Hbb.out]
  generalize w.alloc (.cells #[.slice a2 l2 c2] 26) = w1 at *
  refine (cloneStr_any a1 l1 c1 xs _ HS1.out hl1).mono ?_
  rintro e w2 ⟨p, c, rfl, hacc, hw2⟩
  rw [HXL.out] at hacc ⊢
  have hlt : ∀ k, (Value.slice p l1 c).ownBlock = some k → bb < k ∧ bb ≤ k := fun k hk => by have := (hacc.lt k hk).1; have := Hsz.out; omega
  go_wp2_with fail
  refine (deleteFuncStr_any 116 #[.pointer (some ⟨bb, 0, none⟩)] eg (fun x => memB x ys) _ xs _ hacc (by have := HXL.out; omega) (fun y hy wx hk => ?_)).mono ?_
  · have hc2 := HC.out w2 hw2
    have hcx := hk.cell hc2 (fun e => by have := (hlt _ e).1; dsimp only at this; omega)
    have hsx : Sl RStr 1 (fun _ => True) wx a2 l2 ys := ((HS2.out.keep RStr.ok (Kept.all hw2)).keep RStr.ok (hk.mono (fun k hkk e => by have := (hlt _ e).2; omega))).mono RStr.ok (fun _ _ => trivial)
    exact missing1_any bb a2 l2 c2 ys y wx hcx hsx hl2
  · rintro e w3 ⟨p3, c3, rfl, hacc3, hk3, -⟩
    have hall : All w1 w3 := hw2.trans2 hk3 (fun i hi _ e => by have := (hacc.lt i e).1; omega)
    rw [HMIN.out] at hacc3 ⊢
    have HA := Lib.hid hacc3
    have hbase := Hsz2.out
    clear hacc hacc3 hk3 hlt
    obtain ⟨m, hm⟩ : ∃ m, m = (minusB xs ys).length := ⟨_, rfl⟩
    have HM := Lib.hid hm
    rw [← hm] at HA ⊢
    clear hm
    go_wp2_with fail
    go_ret
    exact ⟨p3, c3, by rw [HM.out]; rfl, by rw [← HM.out, ← Hbb.out]; exact HA.out.base0 hbase, hk1.trans hall⟩

set_option maxHeartbeats 1600000 in
theorem moves_any (a1 : Option Addr) (l1 c1 : Nat) (xs : List ByteArray) (a2 : Option Addr) (l2 c2 : Nat) (ys : List ByteArray) (w : World) (h1 : Sl RStr 1 (fun _ => True) w a1 l1 xs) (hl1 : l1 ≤ 1000000) (hr1 : RisesB xs) (h2 : Sl RStr 1 (fun _ => True) w a2 l2 ys) (hl2 : l2 ≤ 1000000) (hr2 : RisesB ys) :
    Calls Tryz.prog 104 #[.slice a1 l1 c1, .slice a2 l2 c2] w fun e w' => e = .returned (.int .i64 (((minusB xs ys).length + (minusB ys xs).length : Nat) : Int)) ∧ All w w' := by
  have e1 := h1.len
  have e2 := h2.len
  have hW1 := Lib.hid (without_any a1 l1 c1 xs a2 l2 c2 ys w h1 hl1 h2 hl2 hr2)
  have hW2 := Lib.hid (fun wx (k : All w wx) => without_any a2 l2 c2 ys a1 l1 c1 xs wx (h2.keep RStr.ok k) hl2 (h1.keep RStr.ok k) hl1 hr1)
  have b1 := minusB_len xs ys
  have b2 := minusB_len ys xs
  obtain ⟨m1, hm1⟩ : ∃ m, m = (minusB xs ys).length := ⟨_, rfl⟩
  obtain ⟨m2, hm2⟩ : ∃ m, m = (minusB ys xs).length := ⟨_, rfl⟩
  have HM1 := Lib.hid hm1
  have HM2 := Lib.hid hm2
  have hb1 : m1 ≤ 1000000 := by omega
  have hb2 : m2 ≤ 1000000 := by omega
  rw [← hm1, ← hm2]
  clear h1 h2 hr1 hr2 b1 b2 hm1 hm2 e1 e2
  go_enter Tryz.func104, Tryz.ntmps104
  go_wp2_with fail
  refine hW1.out.mono ?_
  rintro e w2 ⟨p, c, rfl, -, hw2⟩
  rw [← HM1.out]
  go_wp2_with fail
  refine (hW2.out _ hw2).mono ?_
  rintro e w3 ⟨p3, c3, rfl, -, hw3⟩
  rw [← HM2.out]
  go_wp2_with fail
  go_ret
  exact ⟨ret_int' (by omega), hw2.trans hw3⟩

set_option maxRecDepth 100000 in
set_option maxHeartbeats 3200000 in
theorem leavers_any (a : Option Addr) (len cap : Nat) (xs : List Pair2) (p : ByteArray) (w : World) (hs : Sl RPair 2 (fun _ => True) w a len xs) (hl : len ≤ 1000000) :
    Calls Tryz.prog 63 #[.slice a len cap, .string p] w (OwnStrs (leav xs p) w) := by
  have Hlen := Lib.hid hs.len
  go_enter Tryz.func63, Tryz.ntmps63
  go_wp2_with fail
  go_loopw [5, 10] (fun v i wr => ∃ k : Nat, k ≤ len ∧ i = .int .i64 k ∧ Acc RStr 1 9 (fun _ => False) w.heap.size wr v (leav (xs.take k) p) ∧ All w wr) (fun _ i _ => len - (intOf i).toNat)
  case atStart => exact ⟨0, Nat.zero_le _, rfl, Acc.nil _ _ _ _ _ _, Kept.refl _ _⟩
  case round =>
    obtain ⟨k, hk, rfl, hacc, hwr⟩ := hrel
    obtain ⟨wo, rfl⟩ : ∃ wo : World, wo = wr := ⟨_, rfl⟩
    obtain ⟨av, cv, rfl, hcv⟩ := hacc.form
    by_cases hlt : k < len
    · obtain ⟨b, off, x, ha, -, c0, c1, hx, -, hxt⟩ := (hs.keep RPair.ok hwr).atPair hlt
      subst ha
      have hz1 := x.h1
      have hz2 := x.h2
      have HXT := Lib.hid hxt
      have hblk := heap_at wo (.cells #[.string x.paper, .string x.person] 101) _ rfl
      have e0 := cell_at (i := 0) hblk rfl
      have e1 := cell_at (i := 1) hblk rfl
      have hwa := hwr.then_alloc (.cells #[.string x.paper, .string x.person] 101)
      have hacca := hacc.keepAll RStr.ok (Kept.alloc (fun _ => True) wo (.cells #[.string x.paper, .string x.person] 101))
      have hwas := hwr.size
      have hfl : (leav (xs.take k) p).length + 1 ≤ 1000000000 := by
        have h1 := leav_len (xs.take k) p
        have h2 := List.length_take_le k xs
        omega
      obtain ⟨m, hm⟩ : ∃ m, m = (leav (xs.take k) p).length := ⟨_, rfl⟩
      have HM := Lib.hid hm
      rw [← hm] at hacca hfl hcv ⊢
      clear hx hxt hblk hacc hwr hm
      by_cases hq : x.paper = p
      · have d1 : (x.paper.toList == p.toList) = true := by simp [hq]
        have HN := Lib.hid (show leav (xs.take (k + 1)) p = leav (xs.take k) p ++ [x.person] by rw [HXT.out, leav_snoc, if_pos hq])
        clear hq
        go_wp2_with (at_builtin; refine wp_append1 RStr.ok _ rfl _ _ 26 rfl w.heap.size 9 (.string ⟨#[]⟩) 1 16 Tryz.underlying26 (by kernel_rfl) rfl (by decide) (fun _ => False) _ (leav (xs.take k) p) rfl (hacca.keepAll RStr.ok (Kept.alloc _ _ _)) ⟨_, 0, none⟩ 1 [.string x.person] rfl rfl (World.news_of_block (cs := #[.string x.person]) (heap_at (wo.alloc (.cells #[.string x.paper, .string x.person] 101)) _ _ (by simp))) (by simp [Value.oneCell']) x.person ⟨rfl, hz2⟩ (by rw [← HM.out]; exact hfl) (by decide) (by simp; omega) ?_)
        intro p' c' w3 hacc3 hg3 _
        have hk3 : All w w3 := (hwa.then_alloc _).grown hg3 (fun k hk => Or.inl (hacca.lt k hk).1)
        rw [← HN.out] at hacc3
        clear hg3 hacca
        go_wp2_with fail
        go_roundw
        case rel => exact ⟨k + 1, by omega, by go_num, hacc3, hk3⟩
        case measure => simp [intOf]; omega
      · have d1 : (x.paper.toList == p.toList) = false := by
          rw [beq_eq_false_iff_ne]
          exact fun e => hq (bytes_ext e)
        have HN := Lib.hid (show leav (xs.take (k + 1)) p = leav (xs.take k) p by rw [HXT.out, leav_snoc, if_neg hq])
        clear hq
        go_wp2_with fail
        go_roundw
        case rel => exact ⟨k + 1, by omega, by go_num, by rw [HN.out]; exact hacca, hwa⟩
        case measure => simp [intOf]; omega
    · have hd : decide ((k : Int) < (len : Int)) = false := by simp; omega
      have hxe : xs.take k = xs := List.take_of_length_le (by have := Hlen.out; omega)
      rw [hxe] at hacc ⊢
      obtain ⟨m, hm⟩ : ∃ m, m = (leav xs p).length := ⟨_, rfl⟩
      have HM := Lib.hid hm
      rw [← hm] at hacc ⊢
      clear hm hxe
      go_wp2_with fail
      go_ret
      exact ⟨av, cv, by rw [HM.out]; rfl, by rw [← HM.out]; exact hacc, hwr⟩
end Go.Proofs.YtllkemadaemjeaaGreatDoor
