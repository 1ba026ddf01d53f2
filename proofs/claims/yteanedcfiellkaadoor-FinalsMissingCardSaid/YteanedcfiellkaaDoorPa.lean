/- Contracts of the makers of nominees, ballots and seats. -/
import Derived.Test.YteanedcfiellkaaDoorZc
namespace Go.Proofs.YteanedcfiellkaaDoor
open Go.RowKit

structure Bal where
  many : Int
  ranks : List ByteArray

def RBal : Rel Bal := fun F w vs x => ∃ a cap, vs = [.int .i64 x.many, .slice a x.ranks.length cap] ∧ x.ranks.length ≤ cap ∧ Sl RStr 1 F w a x.ranks.length x.ranks
theorem RBal.ok : RBal.Ok := by
  refine ⟨?_, ?_, ?_⟩
  · rintro F w w' vs x hk ⟨a, cap, rfl, hc, h⟩
    exact ⟨a, cap, rfl, hc, h.keep RStr.ok hk⟩
  · rintro F G w vs x hk ⟨a, cap, rfl, hc, h⟩
    exact ⟨a, cap, rfl, hc, h.mono RStr.ok hk⟩
  · rintro F w vs x ⟨a, cap, rfl, hc, h⟩
    exact ⟨a, cap, rfl, hc, h.live RStr.ok (by decide)⟩

/-- A slice of at most m strings. -/
def IsStrs (F : Nat → Prop) (m : Nat) (v : Value) (w : World) : Prop := ∃ a len cap ss, v = .slice a len cap ∧ len ≤ m ∧ len ≤ cap ∧ Sl RStr 1 F w a len ss

theorem seats_any (σ : St) (n : Nat) (w : World) (hs : Str σ w n) (hn : n ≤ 4611686018427380000) :
    Calls Tryd.prog 13 #[.pointer (some ⟨σ.b, 0, none⟩)] w (StPost σ n 1 w (IsNum fun r => 0 ≤ r ∧ r ≤ 4)) := by
  have hlt := hs.lt
  go_enter Tryd.func13, Tryd.ntmps13
  go_wp2_with fail
  refine (pick_any σ n _ _ _ [1, 1, 2, 2, 3, 3, 0, 4] _ (hs.keep (Kept.alloc _ _ _)) (by omega) (Sl.lit_ints _ (heap_alloc_new _ _) rfl (by simp; omega)) (by simp) (by simp)).mono ?_
  rintro e w2 ⟨v, m2, rfl, ⟨r, rfl, hr⟩, hm3, hm4, hs2, hb2⟩
  go_wp2_with fail
  go_ret
  refine ⟨_, m2, rfl, ⟨_, rfl, ?_⟩, by omega, by omega, hs2, (Kept.alloc _ _ _).trans hb2⟩
  simp at hr
  omega

set_option maxHeartbeats 800000 in
theorem nominees_any (σ : St) (n : Nat) (w : World) (hs : Str σ w n) (hn : n ≤ 4611686018427380000) :
    Calls Tryd.prog 10 #[.pointer (some ⟨σ.b, 0, none⟩)] w (StPost σ n 3 w (IsStrs (fun k => k ≠ σ.b) 9)) := by
  have hlt := hs.lt
  go_enter Tryd.func10, Tryd.ntmps10
  go_wp2_with fail
  refine (pick_any σ n _ _ _ [1, 2, 3, 3, 4, 5, 8] _ ((hs.keep (Kept.alloc _ _ _)).keep (Kept.alloc _ _ _)) (by omega) (Sl.lit_ints _ (heap_at _ _ _ (by simp)) rfl (by simp; omega)) (by simp) (by simp)).mono ?_
  rintro e w2 ⟨v, m2, rfl, ⟨r, rfl, hr⟩, hm3, hm4, hs2, hb2⟩
  have hr0 : 0 ≤ r := by simp at hr; omega
  have hr1 : r ≤ 9 := by simp at hr; omega
  clear hr
  obtain ⟨i, rfl⟩ := Int.eq_ofNat_of_zero_le hr0
  go_wp2_with fail
  refine (flip_any σ m2 _ _ hs2 (by omega) (by omega) (by omega)).mono ?_
  rintro e w3 ⟨v, m3, rfl, ⟨r, rfl⟩, hm5, hm6, hs3, hb3⟩
  clear hs2
  have h9 : w3.heap[w.heap.size]? = some _ := hb3.heap (hb2.heap (heap_old _ (heap_at w _ _ rfl)) (by omega)) (by omega)
  have hl9 := Sl.lit_strs (F := fun k => k ≠ σ.b) ["na".toUTF8, "nb".toUTF8, "nc".toUTF8, "nd".toUTF8, "ne".toUTF8, "nf".toUTF8, "ng".toUTF8, "nh".toUTF8, "ni".toUTF8] h9 rfl (by omega)
  have H9 := Lib.hid hl9
  clear h9 hl9
  have hbut : But σ.b w w3 := (((Kept.alloc _ _ _).then_alloc _).trans hb2).trans hb3
  clear hb2 hb3
  cases r
  · go_wp2_with fail
    go_ret
    refine ⟨_, m3, rfl, ⟨_, _, _, _, rfl, ?_, ?_, H9.out.take (k := i) ?_⟩, by omega, by omega, hs3, hbut⟩
    · omega
    · omega
    · simp; omega
  · have hlt3 := hs3.lt
    go_wp2_with fail
    refine (next_any σ m3 _ _ (((((hs3.keep (Kept.alloc _ _ _)).keep (Kept.alloc _ _ _)).keep (Kept.alloc _ _ _)).keep (Kept.alloc _ _ _)).keep (Kept.alloc _ _ _)) (by omega) (by omega) (by omega)).mono ?_
    rintro e w4 ⟨v, m4, rfl, ⟨r, rfl, hr3, hr4⟩, hm7, hm8, hs4, hb4⟩
    have g0 : w4.heap[w3.heap.size]? = some _ := hb4.heap (heap_old _ (heap_old _ (heap_old _ (heap_old _ (heap_at w3 _ _ rfl))))) (by omega)
    have g1 : w4.heap[w3.heap.size + 1]? = some _ := hb4.heap (heap_old _ (heap_old _ (heap_old _ (heap_at _ _ _ (by simp))))) (by omega)
    have g2 : w4.heap[w3.heap.size + 2]? = some _ := hb4.heap (heap_old _ (heap_old _ (heap_at _ _ _ (by simp)))) (by omega)
    have g3 : w4.heap[w3.heap.size + 3]? = some _ := hb4.heap (heap_old _ (heap_at _ _ _ (by simp))) (by omega)
    have g4 : w4.heap[w3.heap.size + 4]? = some _ := hb4.heap (heap_at _ _ _ (by simp)) (by omega)
    have l0 := Lib.hid (Sl.lit_strs (F := fun k => k ≠ σ.b) ["nb".toUTF8, "na".toUTF8] g0 rfl (by omega))
    have l1 := Lib.hid (Sl.lit_strs (F := fun k => k ≠ σ.b) ["A".toUTF8] g1 rfl (by omega))
    have l2 := Lib.hid (Sl.lit_strs (F := fun k => k ≠ σ.b) ["na".toUTF8, "na".toUTF8] g2 rfl (by omega))
    have l3 := Lib.hid (Sl.lit_strs (F := fun k => k ≠ σ.b) ["na".toUTF8, "nb".toUTF8, "nc".toUTF8, "nd".toUTF8, "ne".toUTF8, "nf".toUTF8, "ng".toUTF8, "nh".toUTF8, "ni".toUTF8] g3 rfl (by omega))
    have c0 := cell_at (i := 0) g4 rfl
    have c1 := cell_at (i := 1) g4 rfl
    have c2 := cell_at (i := 2) g4 rfl
    have c3 := cell_at (i := 3) g4 rfl
    have c4 := cell_at (i := 4) g4 rfl
    have hbut4 : But σ.b w w4 := ((((((hbut.then_alloc _).then_alloc _).then_alloc _).then_alloc _).then_alloc _)).trans hb4
    clear g0 g1 g2 g3 g4 hb4 hbut hs3
    have h5 : r = 0 ∨ r = 1 ∨ r = 2 ∨ r = 3 ∨ r = 4 := by omega
    rcases h5 with rfl | rfl | rfl | rfl | rfl
    · go_wp2_with fail
      go_ret
      exact ⟨_, m4, rfl, ⟨_, _, _, [], rfl, by omega, by omega, Sl.nil _ _ _ _ _⟩, by omega, by omega, hs4, hbut4⟩
    · go_wp2_with fail
      go_ret
      exact ⟨_, m4, rfl, ⟨_, _, _, _, rfl, by omega, by omega, l0.out⟩, by omega, by omega, hs4, hbut4⟩
    · go_wp2_with fail
      go_ret
      exact ⟨_, m4, rfl, ⟨_, _, _, _, rfl, by omega, by omega, l1.out⟩, by omega, by omega, hs4, hbut4⟩
    · go_wp2_with fail
      go_ret
      exact ⟨_, m4, rfl, ⟨_, _, _, _, rfl, by omega, by omega, l2.out⟩, by omega, by omega, hs4, hbut4⟩
    · go_wp2_with fail
      go_ret
      exact ⟨_, m4, rfl, ⟨_, _, _, _, rfl, by omega, by omega, l3.out⟩, by omega, by omega, hs4, hbut4⟩
end Go.Proofs.YteanedcfiellkaaDoor
