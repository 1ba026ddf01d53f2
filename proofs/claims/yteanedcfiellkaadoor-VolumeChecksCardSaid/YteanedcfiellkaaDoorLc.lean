/- The law VolumeChecks, walked. -/
import Derived.Test.YteanedcfiellkaaDoorVf
import Derived.Test.YteanedcfiellkaaDoorVh
import Derived.Test.YteanedcfiellkaaDoorWb
namespace Go.Proofs.YteanedcfiellkaaDoor
open Go.RowKit

set_option maxRecDepth 100000 in
set_option maxHeartbeats 3200000 in
theorem volumeChecks_walk (a : Option Addr) (len cap : Nat) (w : World) (h : IsRow w a len cap) (hg : Glob w) :
    Calls Tryd.prog 5 #[.slice a len cap] w fun e w' => e = .returned (.bool true) ∧ Below w.heap.size w w' := by
  have hgl := hg.lt
  have hst := h.start
  obtain ⟨σ, hσ⟩ : ∃ σ : St, σ = ⟨w.heap.size, a, len, cap⟩ := ⟨_, rfl⟩
  have hσb : σ.b = w.heap.size := by rw [hσ]
  rw [← hσ] at hst
  have Hσ := Lib.hid hσb
  have hptr : (Value.pointer (some ⟨w.heap.size, 0, none⟩)) = Value.pointer (some ⟨σ.b, 0, none⟩) := by rw [hσb]
  have Hptr := Lib.hid hptr
  have hσ2 : 2 < σ.b := by omega
  have hk0 : Kept (fun k => k ≠ σ.b) w (w.alloc (.cells #[.slice a len cap, .int .i64 0] 25)) := Kept.alloc _ _ _
  have HG := Lib.hid hg
  clear hσ hσb hptr h hg
  go_enter Tryd.func5, Tryd.ntmps5
  go_wp2_with fail
  simp only [Hptr.out]
  generalize w.alloc (.cells #[.slice a len cap, .int .i64 0] 25) = w0 at *
  refine (finals_any σ 0 _ hst (by omega)).mono ?_
  rintro e w1 ⟨v, n1, rfl, ⟨af, cf, xs, rfl, hxl, hcf, hf⟩, hn1, hn2, hs1, hb1⟩
  have hk1 := hk0.trans hb1
  clear hst hk0 hb1
  go_wp2_with fail
  refine (volume_any σ n1 af xs.length cf xs _ hs1 (by omega) hf (by omega)).mono ?_
  rintro e w2 ⟨v, n2, rfl, ⟨first, right, av, cv, cs, rfl, hcl, hv⟩, hn3, hn4, hs2, hb2⟩
  have hf2 := hf.keep RFin.ok hb2
  have hk2 := hk1.trans hb2
  clear hs1 hk1 hf hb2
  go_wp2_with fail
  have hk4 : Kept (fun k => k ≠ σ.b) w (w2.alloc (.cells #[.int .i64 first, .bool right, .slice av cs.length cv] 53)) := hk2.then_alloc _
  have hf4 := (hf2.keep RFin.ok (Kept.alloc _ w2 (.cells #[.int .i64 first, .bool right, .slice av cs.length cv] 53))).mono RFin.ok (G := fun _ => True) (fun _ _ => trivial)
  have hv4 := (hv.keep RChap.ok (Kept.alloc _ w2 (.cells #[.int .i64 first, .bool right, .slice av cs.length cv] 53))).mono RChap.ok (G := fun _ => True) (fun _ _ => trivial)
  have hblk := heap_at w2 (.cells #[.int .i64 first, .bool right, .slice av cs.length cv] 53) _ rfl
  have v0 := cell_at (i := 0) hblk rfl
  have v1 := cell_at (i := 1) hblk rfl
  have v2 := cell_at (i := 2) hblk rfl
  have HG4 := Lib.hid (HG.out.but hk4 hσ2)
  have hend : ∀ wx, All (w2.alloc (.cells #[.int .i64 first, .bool right, .slice av cs.length cv] 53)) wx → Below w.heap.size w wx := fun wx hw => (hk4.trans (Kept.all hw)).below (Nat.le_refl _) (fun k hk => by have := Hσ.out; omega)
  have Hend := Lib.hid hend
  have hne1 : (finalsF xs == finalsF xs) = true := by simp
  have hne2 : (volF first right cs xs == volF first right cs xs) = true := by simp
  have Hvb : ∃ vb, vb = w2.heap.size := ⟨_, rfl⟩
  obtain ⟨vb, hvb⟩ := Hvb
  rw [← hvb] at v0 v1 v2 ⊢
  clear hf2 hv hk2 hs2 hblk hend hk4 HG hvb
  generalize w2.alloc (.cells #[.int .i64 first, .bool right, .slice av cs.length cv] 53) = w4 at *
  go_region_held3 (fun w' => w'.cell? ⟨vb, 0, none⟩ = some (.int .i64 first) ∧ w'.cell? ⟨vb, 1, none⟩ = some (.bool right) ∧ w'.cell? ⟨vb, 2, none⟩ = some (.slice av cs.length cv)) (first | go_keep | exact ⟨by assumption, by assumption, by assumption⟩) (first
    | (go_at_call 29; refine (checkFinals_any af xs.length cf xs _ (hf4.keep RFin.ok (by repeat (first | exact Kept.refl _ _ | refine Kept.then_drew ?_ | refine Kept.then_alloc ?_ _))) (by omega) (HG4.out.keep (by repeat (first | exact Kept.refl _ _ | refine Kept.then_drew ?_ | refine Kept.then_alloc ?_ _)))).mono ?_; rintro e q1 ⟨rfl, hq1⟩; have hp1 : All w4 q1 := Kept.trans (by repeat (first | exact Kept.refl _ _ | refine Kept.then_drew ?_ | refine Kept.then_alloc ?_ _)) hq1; have a10 := hp1.cell v0 trivial; have a11 := hp1.cell v1 trivial; have a12 := hp1.cell v2 trivial)
    | (go_at_call 30; refine (finalsFault_any af xs.length cf xs _ (hf4.keep RFin.ok (hp1.trans (by repeat (first | exact Kept.refl _ _ | refine Kept.then_drew ?_ | refine Kept.then_alloc ?_ _)))) (by omega) (HG4.out.keep (hp1.trans (by repeat (first | exact Kept.refl _ _ | refine Kept.then_drew ?_ | refine Kept.then_alloc ?_ _))))).mono ?_; rintro e q2 ⟨rfl, hq2⟩; have hp2 : All w4 q2 := Kept.trans (hp1.trans (by repeat (first | exact Kept.refl _ _ | refine Kept.then_drew ?_ | refine Kept.then_alloc ?_ _))) hq2; have a20 := hp2.cell v0 trivial; have a21 := hp2.cell v1 trivial; have a22 := hp2.cell v2 trivial)
    | (go_at_call 31; refine (checkVolume_any first right av cs.length cv cs af xs.length cf xs _ (hv4.keep RChap.ok (hp2.trans (by repeat (first | exact Kept.refl _ _ | refine Kept.then_drew ?_ | refine Kept.then_alloc ?_ _)))) (hf4.keep RFin.ok (hp2.trans (by repeat (first | exact Kept.refl _ _ | refine Kept.then_drew ?_ | refine Kept.then_alloc ?_ _)))) (by omega) (by omega) (HG4.out.keep (hp2.trans (by repeat (first | exact Kept.refl _ _ | refine Kept.then_drew ?_ | refine Kept.then_alloc ?_ _))))).mono ?_; rintro e q3 ⟨rfl, hq3⟩; have hp3 : All w4 q3 := Kept.trans (hp2.trans (by repeat (first | exact Kept.refl _ _ | refine Kept.then_drew ?_ | refine Kept.then_alloc ?_ _))) hq3; have a30 := hp3.cell v0 trivial; have a31 := hp3.cell v1 trivial; have a32 := hp3.cell v2 trivial)
    | (go_at_call 32; refine (volumeFault_any first right av cs.length cv cs af xs.length cf xs _ (hv4.keep RChap.ok (hp3.trans (by repeat (first | exact Kept.refl _ _ | refine Kept.then_drew ?_ | refine Kept.then_alloc ?_ _)))) (hf4.keep RFin.ok (hp3.trans (by repeat (first | exact Kept.refl _ _ | refine Kept.then_drew ?_ | refine Kept.then_alloc ?_ _)))) (by omega) (by omega) (HG4.out.keep (hp3.trans (by repeat (first | exact Kept.refl _ _ | refine Kept.then_drew ?_ | refine Kept.then_alloc ?_ _))))).mono ?_; rintro e q4 ⟨rfl, hq4⟩; have hp4 : All w4 q4 := Kept.trans (hp3.trans (by repeat (first | exact Kept.refl _ _ | refine Kept.then_drew ?_ | refine Kept.then_alloc ?_ _))) hq4; have a40 := hp4.cell v0 trivial; have a41 := hp4.cell v1 trivial; have a42 := hp4.cell v2 trivial)
    | (go_at_call 17; refine (printed_any _).mono ?_; rintro e w' ⟨rfl, rfl⟩))
  all_goals
    go_wp2_with fail
    go_ret
    exact ⟨rfl, Hend.out _ hp4⟩
end Go.Proofs.YteanedcfiellkaaDoor
