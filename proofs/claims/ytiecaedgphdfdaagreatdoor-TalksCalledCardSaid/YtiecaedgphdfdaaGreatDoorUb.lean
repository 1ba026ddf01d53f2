/- TalkRules and Ids10. -/
import Derived.Test.YtiecaedgphdfdaaGreatDoorZb
import Derived.Test.YtiecaedgphdfdaaGreatDoorZc
import Derived.Test.YtiecaedgphdfdaaGreatDoorZd
namespace Go.Proofs.YtiecaedgphdfdaaGreatDoor
open Go.RowKit

/-- Rules of talks. -/
structure TR where
  sp : Int
  fr : Int
  til : Int
  few : Int
  re : Bool
abbrev TR.val (r : TR) : Value := .agg #[.int .i64 r.sp, .int .i64 r.fr, .int .i64 r.til, .int .i64 r.few, .bool r.re]
def IsTalk (v : Value) (_ : World) : Prop := ∃ r : TR, v = r.val

set_option maxRecDepth 100000 in
set_option maxHeartbeats 3200000 in
theorem talkRules_any (σ : St) (n : Nat) (w : World) (hs : Str σ w n) (hn : n ≤ 4611686018427380000) :
    Calls Tryz.prog 31 #[.pointer (some ⟨σ.b, 0, none⟩)] w (StPost σ n 10 w IsTalk) := by
  have hlt0 := hs.lt
  have hk1 : But σ.b w (w.alloc (.cells #[.int .i64 0, .int .i64 0, .int .i64 0, .int .i64 0, .bool false] 68)) := Kept.alloc _ _ _
  have hrb := heap_at w (.cells #[.int .i64 0, .int .i64 0, .int .i64 0, .int .i64 0, .bool false] 68) _ rfl
  have hs1 := hs.keep (Kept.alloc (fun _ => True) w (.cells #[.int .i64 0, .int .i64 0, .int .i64 0, .int .i64 0, .bool false] 68))
  obtain ⟨tb, htb⟩ : ∃ tb, tb = w.heap.size := ⟨_, rfl⟩
  have Htb := Lib.hid htb
  have Hsz1 := Lib.hid (show w.heap.size + 1 = (w.alloc (.cells #[.int .i64 0, .int .i64 0, .int .i64 0, .int .i64 0, .bool false] 68)).heap.size by simp)
  have hne : tb ≠ σ.b := by omega
  have hgt : σ.b < tb := by omega
  rw [← htb] at hrb
  clear hs htb
  go_enter Tryz.func31, Tryz.ntmps31
  go_wp2_with fail
  rw [Hsz1.out, ← Htb.out]
  clear Hsz1
  generalize w.alloc (.cells #[.int .i64 0, .int .i64 0, .int .i64 0, .int .i64 0, .bool false] 68) = w1 at *
  have hlt1 := hs1.lt
  refine (pick_any σ n _ _ _ [0, 2, 3, 10, 11] _ (hs1.keep (Kept.alloc _ _ _)) (by omega) (Sl.lit_ints _ (heap_at _ _ _ rfl) rfl (by omega)) (by simp) (by simp)).mono ?_
  rintro e w2 ⟨v, n2, rfl, ⟨r1, rfl, -⟩, hn1, hn2, hs2, hb2⟩
  have hk2 : But σ.b w w2 := (hk1.then_alloc _).trans hb2
  have hrb2 := hb2.heap (heap_old _ hrb) hne
  have hlt2 := hs2.lt
  clear hs1 hb2 hrb hk1
  go_wp2_with fail
  refine (pick_any σ n2 _ _ _ [0, 40, 50, -1] _ (hs2.keep (Kept.alloc _ _ _)) (by omega) (Sl.lit_ints _ (heap_at _ _ _ rfl) rfl (by omega)) (by simp) (by simp)).mono ?_
  rintro e w3 ⟨v, n3, rfl, ⟨r2, rfl, -⟩, hn3, hn4, hs3, hb3⟩
  have hk3 : But σ.b w w3 := (hk2.then_alloc _).trans hb3
  have hrb3 := hb3.heap (heap_old _ hrb2) hne
  have hlt3 := hs3.lt
  clear hs2 hb3 hrb2 hk2
  go_wp2_with fail
  refine (pick_any σ n3 _ _ _ [0, 60, 60, 101, 102] _ (hs3.keep (Kept.alloc _ _ _)) (by omega) (Sl.lit_ints _ (heap_at _ _ _ rfl) rfl (by omega)) (by simp) (by simp)).mono ?_
  rintro e w4 ⟨v, n4, rfl, ⟨r3, rfl, -⟩, hn5, hn6, hs4, hb4⟩
  have hk4 : But σ.b w w4 := (hk3.then_alloc _).trans hb4
  have hrb4 := hb4.heap (heap_old _ hrb3) hne
  have hlt4 := hs4.lt
  clear hs3 hb4 hrb3 hk3
  go_wp2_with fail
  refine (pick_any σ n4 _ _ _ [0, 1, 2, 11, 12] _ (hs4.keep (Kept.alloc _ _ _)) (by omega) (Sl.lit_ints _ (heap_at _ _ _ rfl) rfl (by omega)) (by simp) (by simp)).mono ?_
  rintro e w5 ⟨v, n5, rfl, ⟨r4, rfl, -⟩, hn7, hn8, hs5, hb5⟩
  have hk5 : But σ.b w w5 := (hk4.then_alloc _).trans hb5
  have hrb5 := hb5.heap (heap_old _ hrb4) hne
  clear hs4 hb5 hrb4 hk4
  go_wp2_with fail
  refine (flip_any σ n5 2 _ hs5 (by omega) (by omega) (by omega)).mono ?_
  rintro e w6 ⟨v, n6, rfl, ⟨r5, rfl⟩, hn9, hn10, hs6, hb6⟩
  have hk6 : But σ.b w w6 := hk5.trans hb6
  have hrb6 := hb6.heap hrb5 hne
  have c0 := cell_at (i := 0) hrb6 rfl
  have c1 := cell_at (i := 1) hrb6 rfl
  have c2 := cell_at (i := 2) hrb6 rfl
  have c3 := cell_at (i := 3) hrb6 rfl
  have c4 := cell_at (i := 4) hrb6 rfl
  have z0 := frozen_at (i := 0) hrb6
  have z1 := frozen_at (i := 1) hrb6
  have z2 := frozen_at (i := 2) hrb6
  have z3 := frozen_at (i := 3) hrb6
  have z4 := frozen_at (i := 4) hrb6
  have hfin : ((((((w6.setCell ⟨tb, 0, none⟩ (.int .i64 r1)).setCell ⟨tb, 1, none⟩ (.int .i64 r2)).setCell ⟨tb, 2, none⟩ (.int .i64 r3)).setCell ⟨tb, 3, none⟩ (.int .i64 r4)).setCell ⟨tb, 4, none⟩ (.bool r5))).heap[tb]? = some (.cells #[.int .i64 r1, .int .i64 r2, .int .i64 r3, .int .i64 r4, .bool r5] 68 (0, 0)) := by
    have h0 := heap_setCell_at w6 tb 0 (.int .i64 r1) _ _ _ hrb6
    have h1 := heap_setCell_at _ tb 1 (.int .i64 r2) _ _ _ h0
    have h2 := heap_setCell_at _ tb 2 (.int .i64 r3) _ _ _ h1
    have h3 := heap_setCell_at _ tb 3 (.int .i64 r4) _ _ _ h2
    have h4 := heap_setCell_at _ tb 4 (.bool r5) _ _ _ h3
    simpa using h4
  have q0 := cell_at (i := 0) hfin rfl
  have q1 := cell_at (i := 1) hfin rfl
  have q2 := cell_at (i := 2) hfin rfl
  have q3 := cell_at (i := 3) hfin rfl
  have q4 := cell_at (i := 4) hfin rfl
  clear hs5 hb6 hrb5 hk5 hfin hrb6
  go_wp2_with fail
  refine bodyPost_ret (v := .agg #[.int .i64 r1, .int .i64 r2, .int .i64 r3, .int .i64 r4, .bool r5]) ?_ rfl ⟨_, n6, rfl, ⟨⟨r1, r2, r3, r4, r5⟩, rfl⟩, by omega, by omega, ((((hs6.set _ _ hgt).set _ _ hgt).set _ _ hgt).set _ _ hgt).set _ _ hgt, ((((hk6.then_setNew _ _ (Nat.le_of_eq Htb.out.symm)).then_setNew _ _ (Nat.le_of_eq Htb.out.symm)).then_setNew _ _ (Nat.le_of_eq Htb.out.symm)).then_setNew _ _ (Nat.le_of_eq Htb.out.symm)).then_setNew _ _ (Nat.le_of_eq Htb.out.symm)⟩
  simp [results, Tryz.results31, go_sem, q0, q1, q2, q3, q4]

end Go.Proofs.YtiecaedgphdfdaaGreatDoor
