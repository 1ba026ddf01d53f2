/- The generator Who. -/
import Derived.Test.YtiecaedgphdfdaaGreatDoorZb
import Derived.Test.YtiecaedgphdfdaaGreatDoorZc
namespace Go.Proofs.YtiecaedgphdfdaaGreatDoor
open Go.RowKit

set_option maxHeartbeats 1600000 in
theorem who_any (σ : St) (n : Nat) (w : World) (hs : Str σ w n) (hn : n ≤ 4611686018427380000) :
    Calls Tryz.prog 41 #[.pointer (some ⟨σ.b, 0, none⟩)] w (StPost σ n 1 w (IsStr fun r => r.size ≤ 1000000)) := by
  have hlt := hs.lt
  go_enter Tryz.func41, Tryz.ntmps41
  go_wp2_with fail
  refine (some10_any σ n _ 11 11 [⟨#[97, 110, 110]⟩, ⟨#[98, 111, 98]⟩, ⟨#[98, 111, 98]⟩, ⟨#[99, 105, 100]⟩, ⟨#[99, 105, 100]⟩, ⟨#[100, 101, 101]⟩, ⟨#[101, 118, 101]⟩, ⟨#[102, 97, 121]⟩, ⟨#[122, 101, 100]⟩, ⟨#[]⟩, ⟨#[65]⟩] _ (hs.keep (Kept.alloc _ _ _)) (by omega) (Sl.lit_strs _ (heap_at w _ _ rfl) rfl (by omega)) (by omega) (by omega)).mono ?_
  rintro e w2 ⟨v, n2, rfl, ⟨r, rfl, -, hrz⟩, hn1, hn2, hs2, hb2⟩
  have hb : But σ.b w w2 := (Kept.alloc _ _ _).trans hb2
  go_wp2_with fail
  go_ret
  exact ⟨_, n2, rfl, ⟨r, rfl, hrz⟩, hn1, hn2, hs2, hb⟩
end Go.Proofs.YtiecaedgphdfdaaGreatDoor
