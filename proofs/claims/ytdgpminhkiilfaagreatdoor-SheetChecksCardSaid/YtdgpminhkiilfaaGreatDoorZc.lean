/- Contracts of the stream: odd10, Order; slices written out. -/
import Derived.Test.YtdgpminhkiilfaaGreatDoorZb
import Derived.Test.YtdgpminhkiilfaaGreatDoorZd
namespace Go.Proofs.YtdgpminhkiilfaaGreatDoor
open Go.RowKit

theorem Sl.lit_ints {F : Nat → Prop} {w' : World} {t : TypeId} {fz : Nat × Nat} {b : Nat} {c : Array Value} (zs : List Int) (hb : w'.heap[b]? = some (.cells c t fz)) (hc : c = (zs.map (Value.int .i64)).toArray) (hF : F b) :
    Sl RInt 1 F w' (some ⟨b, 0, none⟩) zs.length zs := by
  refine Sl.of_ints rfl hF fun i hi => ?_
  simp [World.cell?, hb, hc, List.getElem?_eq_getElem hi]
theorem Sl.lit_strs {F : Nat → Prop} {w' : World} {t : TypeId} {fz : Nat × Nat} {b : Nat} {c : Array Value} (ss : List ByteArray) (hb : w'.heap[b]? = some (.cells c t fz)) (hc : c = (ss.map Value.string).toArray) (hF : F b) (hz : ss.all (fun s => decide (s.size ≤ 1000000)) = true := by decide) :
    Sl RStr 1 F w' (some ⟨b, 0, none⟩) ss.length ss := by
  refine Sl.of_strs rfl hF (fun i hi => ?_) (fun s hs => of_decide_eq_true (List.all_eq_true.1 hz s hs))
  simp [World.cell?, hb, hc, List.getElem?_eq_getElem hi]

theorem odd10_any (σ : St) (n : Nat) (lo hi : Int) (w : World) (hs : Str σ w n) (hn : n ≤ 4611686018427380000) (h1 : lo ≤ hi) (h2 : -1000000000000 ≤ lo) (h3 : hi ≤ 1000000000000) :
    Calls Tryz.prog 39 #[.pointer (some ⟨σ.b, 0, none⟩), .int .i64 lo, .int .i64 hi] w (StPost σ n 2 w (IsNum fun r => -2000000000000 ≤ r ∧ r ≤ 2000000000000)) := by
  go_enter Tryz.func39, Tryz.ntmps39
  go_wp2_with fail
  refine (flip_any σ n _ _ hs (by omega) (by omega) (by omega)).mono ?_
  rintro e w' ⟨v, m, rfl, ⟨r, rfl⟩, hm1, hm2, hs', hb'⟩
  clear hs
  cases r
  · go_wp2_with fail
    refine (range_any σ m _ _ _ hs' (by omega) h1 h2 h3).mono ?_
    rintro e w2 ⟨v, m2, rfl, ⟨r, rfl, hr1, hr2⟩, hm3, hm4, hs2, hb2⟩
    go_wp2_with fail
    go_ret
    exact ⟨_, m2, rfl, ⟨_, rfl, by omega, by omega⟩, by omega, by omega, hs2, hb'.trans hb2⟩
  · have hlt := hs'.lt
    go_wp2_with fail
    refine (pick_any σ m _ _ _ [lo - 1, hi + 1, lo, hi, -1099511627776, 1099511627776] _ (hs'.keep (Kept.alloc _ _ _)) (by omega) (Sl.lit_ints _ (heap_alloc_new _ _) rfl (by simp; omega)) (by simp) (by simp)).mono ?_
    rintro e w2 ⟨v, m2, rfl, ⟨r, rfl, hr⟩, hm3, hm4, hs2, hb2⟩
    go_wp2_with fail
    go_ret
    refine ⟨_, m2, rfl, ⟨_, rfl, ?_⟩, by omega, by omega, hs2, (hb'.then_alloc _).trans hb2⟩
    simp at hr
    omega
end Go.Proofs.YtdgpminhkiilfaaGreatDoor
