/- The generator Leave. -/
import Derived.Test.YtllkemadaemjeaaGreatDoorRh
import Derived.Test.YtllkemadaemjeaaGreatDoorYa
namespace Go.Proofs.YtllkemadaemjeaaGreatDoor
open Go.RowKit

set_option maxRecDepth 100000 in
set_option maxHeartbeats 3200000 in
theorem leave_any (σ : St) (n : Nat) (w : World) (hs : Str σ w n) (hn : n ≤ 4611686018427200000) :
    Calls Tryz.prog 8 #[.pointer (some ⟨σ.b, 0, none⟩)] w (StPost σ n 100 w (IsPairs w.heap.size 21)) := by
  have hlt := hs.lt
  go_enter Tryz.func8, Tryz.ntmps8
  go_wp2_with fail
  refine (range_any σ n _ _ _ (hs.keep (by repeat (first | exact Kept.refl _ _ | refine Kept.then_alloc ?_ _))) (by omega) (by omega) (by omega) (by omega)).mono ?_
  rintro e w2 ⟨v, n2, rfl, ⟨r, rfl, hr1, hr2⟩, hn3, hn4, hs2, hb2⟩
  obtain ⟨M, rfl⟩ := Int.eq_ofNat_of_zero_le hr1
  have hb12 : But σ.b w w2 := Kept.trans (by repeat (first | exact Kept.refl _ _ | refine Kept.then_alloc ?_ _)) hb2
  have hp := hb2.heap (heap_old _ (heap_at w (.cells #[.string ⟨#[112, 97]⟩, .string ⟨#[112, 98]⟩, .string ⟨#[112, 99]⟩, .string ⟨#[112, 100]⟩, .string ⟨#[112, 101]⟩, .string ⟨#[112, 122]⟩] 9) _ rfl)) (by omega)
  have hq := hb2.heap (heap_at _ (.cells #[.string ⟨#[97, 110, 110]⟩, .string ⟨#[98, 111, 98]⟩, .string ⟨#[99, 105, 100]⟩, .string ⟨#[100, 101, 101]⟩] 9) _ rfl) (by simp; omega)
  have HP := Lib.hid (Sl.lit_strs (F := fun k => k ≠ σ.b) [⟨#[112, 97]⟩, ⟨#[112, 98]⟩, ⟨#[112, 99]⟩, ⟨#[112, 100]⟩, ⟨#[112, 101]⟩, ⟨#[112, 122]⟩] hp rfl (by omega))
  have HQ := Lib.hid (Sl.lit_strs (F := fun k => k ≠ σ.b) [⟨#[97, 110, 110]⟩, ⟨#[98, 111, 98]⟩, ⟨#[99, 105, 100]⟩, ⟨#[100, 101, 101]⟩] hq rfl (by simp; omega))
  have hsz2 := hb12.size
  have hlt2 := hs2.lt
  clear hp hq hb2 hs
  go_wp2_with fail
  refine (pairs10_any σ n2 _ 6 6 _ _ 4 4 _ M _ hs2 (by omega) HP.out (by simpa using HQ.out) (by omega) (by omega) (by omega) (by omega) (by omega)).mono ?_
  rintro e w3 ⟨v, n3, rfl, ⟨ps, hpl, hacc⟩, hn5, hn6, hs3, hb3⟩
  have hb13 := hb12.trans hb3
  have hsz3 := hb13.size
  obtain ⟨pa, pc, rfl, hpc⟩ := hacc.form
  have hlt3 := hs3.lt
  clear hs2 hb12 hb3
  go_wp2_with fail
  refine (flip_any σ n3 _ _ hs3 (by omega) (by omega) (by omega)).mono ?_
  rintro e w4 ⟨v, n4, rfl, ⟨r, rfl⟩, hn7, hn8, hs4, hb4⟩
  have hb14 := hb13.trans hb4
  have hsz4 := hb14.size
  have hacc4 := hacc.keep RPair.ok hb4 (fun _ h => h.elim) (fun k hk => by have := (hacc.lt k hk).1; omega)
  have hlt4 := hs4.lt
  clear hs3 hb13 hb4 hacc
  cases r with
  | false =>
    go_wp2_with fail
    go_ret
    exact ⟨_, n4, rfl, ⟨ps, by omega, hacc4.base0 (by omega)⟩, by omega, by omega, hs4, hb14⟩
  | true =>
    go_wp2_with fail
    refine (some10_any σ n4 _ 3 3 [⟨#[112, 97]⟩, ⟨#[65]⟩, ⟨#[112, 122, 122]⟩] _ (hs4.keep (Kept.alloc _ _ _)) (by omega) (Sl.lit_strs _ (heap_at w4 _ _ rfl) rfl (by omega)) (by omega) (by omega)).mono ?_
    rintro e w5 ⟨v, n5, rfl, ⟨y1, rfl, -, hy1⟩, hn9, hn10, hs5, hb5⟩
    have hb15 := (hb14.then_alloc _).trans hb5
    have hacc5 := (hacc4.keepAll RPair.ok (Kept.alloc _ _ (.cells #[.string ⟨#[112, 97]⟩, .string ⟨#[65]⟩, .string ⟨#[112, 122, 122]⟩] 9))).keep RPair.ok hb5 (fun _ h => h.elim) (fun k hk => by have := (hacc4.lt k hk).1; omega)
    have hlt5 := hs5.lt
    clear hs4 hacc4 hb14 hb5
    go_wp2_with fail
    refine (some10_any σ n5 _ 2 2 [⟨#[97, 110, 110]⟩, ⟨#[]⟩] _ (hs5.keep (Kept.alloc _ _ _)) (by omega) (Sl.lit_strs _ (heap_at w5 _ _ rfl) rfl (by omega)) (by omega) (by omega)).mono ?_
    rintro e w6 ⟨v, n6, rfl, ⟨y2, rfl, -, hy2⟩, hn11, hn12, hs6, hb6⟩
    have hb16 := (hb15.then_alloc _).trans hb6
    have hacc6 := (hacc5.keepAll RPair.ok (Kept.alloc _ _ (.cells #[.string ⟨#[97, 110, 110]⟩, .string ⟨#[]⟩] 9))).keep RPair.ok hb6 (fun _ h => h.elim) (fun k hk => by have := (hacc5.lt k hk).1; omega)
    have hsz6 := hb16.size
    have hlb : ps.length + 1 ≤ 1000000000 := by omega
    have hacc7 := hacc6.base0 (B' := σ.b + 1) (by omega)
    have hsg : σ.b + 1 ≤ w.heap.size := by omega
    clear hs5 hacc5 hb15 hb6
    go_wp2_with (at_builtin; refine wp_append1 RPair.ok _ rfl _ _ 28 rfl w.heap.size 101 (.agg #[.string ⟨#[]⟩, .string ⟨#[]⟩]) 2 32 Tryz.underlying28 (by kernel_rfl) rfl (by decide) (fun _ => False) _ ps rfl ((hacc6.base0 (by omega)).keepAll RPair.ok (Kept.alloc _ _ _)) ⟨_, 0, none⟩ 1 [.string y1, .string y2] rfl rfl (World.news_of_block (cs := #[.string y1, .string y2]) (heap_alloc_new w6 _)) (by simp [Value.oneCell']) ⟨y1, y2, hy1, hy2⟩ rfl hlb (by decide) (by simp; omega) ?_)
    intro p' c' w9 hacc9 hg9 _
    have hkr := Lib.hid (fun k (hk : (Value.slice pa ps.length pc).ownBlock = some k) => (hacc6.lt k hk).1)
    have hw9 : But σ.b w w9 := (hb16.then_alloc _).grown hg9 (fun k hk => Or.inl (by have := hkr.out k hk; omega))
    have hs9 := hs6.kept (F := fun j => j ≤ σ.b) ((Kept.alloc _ _ _).grown hg9 (fun k hk => Or.inr (fun h => by have := hkr.out k hk; omega))) (fun _ h => h)
    clear hacc6 hacc7 hg9 hb16 hs6
    go_wp2_with fail
    go_ret
    exact ⟨_, n6, rfl, ⟨_, by simp; omega, hacc9⟩, by omega, by omega, hs9, hw9⟩
end Go.Proofs.YtllkemadaemjeaaGreatDoor
