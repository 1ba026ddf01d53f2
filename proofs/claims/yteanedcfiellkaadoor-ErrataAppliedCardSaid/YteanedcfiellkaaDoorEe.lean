/- Clone of finals and of credits. -/
import Derived.Test.YteanedcfiellkaaDoorEd
namespace Go.Proofs.YteanedcfiellkaaDoor
open Go.RowKit

/-- A copy in a row of the call's own. -/
def ClonePost {α : Type} (R : Rel α) (sz : Nat) (T : TypeId) (xs : List α) (w : World) (e : Ending) (w' : World) : Prop :=
  ∃ p c, e = .returned (.slice p xs.length c) ∧ Acc R sz T (fun k => k < w.heap.size) w.heap.size w' (.slice p xs.length c) xs ∧ All w w'

set_option maxHeartbeats 800000 in
theorem cloneFin_any (a : Option Addr) (len cap : Nat) (xs : List Fin4) (w : World) (hs : Sl RFin 4 (fun _ => True) w a len xs) (hl : len ≤ 1000) :
    Calls Tryd.prog 86 #[.slice a len cap] w (ClonePost RFin 4 65 xs w) := by
  have Hlen := Lib.hid hs.len
  cases a with
  | none =>
    have h0 : len = 0 := by
      rcases Nat.eq_zero_or_pos len with h | h
      · exact h
      · obtain ⟨b, off, ha, -⟩ := hs.2 h
        cases ha
    have hx : xs = [] := List.eq_nil_of_length_eq_zero (by have := Hlen.out; omega)
    subst hx
    subst h0
    have hnil := @Lib.run_eql_slice_nil Tryd.prog
    go_enter Tryd.func86, Tryd.ntmps86
    go_wp2_with fail
    go_ret
    exact ⟨_, _, rfl, Acc.nil _ _ _ _ _ _, Kept.refl _ _⟩
  | some ad =>
    have hnil := @Lib.run_eql_slice_nil Tryd.prog
    have hsl : Sl RFin 4 (fun k => k < w.heap.size) w (some ad) len xs := (hs.live RFin.ok (by decide)).mono RFin.ok (fun k hk => hk.2)
    go_enter Tryd.func86, Tryd.ntmps86
    go_wp2_with (at_builtin; refine wp_clone RFin.ok _ rfl _ _ 49 rfl 65 (.agg #[.string ⟨#[]⟩, .string ⟨#[]⟩, .int .i64 0, .slice none 0 0]) 4 64 Tryd.underlying49 (by kernel_rfl) rfl (by decide) (fun k => k < w.heap.size) w rfl rfl ad len cap xs rfl (hsl.keep RFin.ok (Kept.alloc _ _ _)) (fun _ h => h) (by rintro vs y ⟨a, c, rfl, -⟩ u hu; simp at hu; rcases hu with rfl | rfl | rfl | rfl <;> rfl) (by omega) (by decide) ?_)
    intro p' c' w2 hacc hw2
    clear hs hsl hnil
    go_wp2_with fail
    go_ret
    exact ⟨_, _, rfl, hacc, hw2⟩

set_option maxHeartbeats 800000 in
theorem cloneCred_any (a : Option Addr) (len cap : Nat) (xs : List Cred) (w : World) (hs : Sl RCred 2 (fun _ => True) w a len xs) (hl : len ≤ 1000) :
    Calls Tryd.prog 87 #[.slice a len cap] w (ClonePost RCred 2 107 xs w) := by
  have Hlen := Lib.hid hs.len
  cases a with
  | none =>
    have h0 : len = 0 := by
      rcases Nat.eq_zero_or_pos len with h | h
      · exact h
      · obtain ⟨b, off, ha, -⟩ := hs.2 h
        cases ha
    have hx : xs = [] := List.eq_nil_of_length_eq_zero (by have := Hlen.out; omega)
    subst hx
    subst h0
    have hnil := @Lib.run_eql_slice_nil Tryd.prog
    go_enter Tryd.func87, Tryd.ntmps87
    go_wp2_with fail
    go_ret
    exact ⟨_, _, rfl, Acc.nil _ _ _ _ _ _, Kept.refl _ _⟩
  | some ad =>
    have hnil := @Lib.run_eql_slice_nil Tryd.prog
    have hsl : Sl RCred 2 (fun k => k < w.heap.size) w (some ad) len xs := (hs.live RCred.ok (by decide)).mono RCred.ok (fun k hk => hk.2)
    go_enter Tryd.func87, Tryd.ntmps87
    go_wp2_with (at_builtin; refine wp_clone RCred.ok _ rfl _ _ 63 rfl 107 (.agg #[.string ⟨#[]⟩, .string ⟨#[]⟩]) 2 32 Tryd.underlying63 (by kernel_rfl) rfl (by decide) (fun k => k < w.heap.size) w rfl rfl ad len cap xs rfl (hsl.keep RCred.ok (Kept.alloc _ _ _)) (fun _ h => h) (by rintro vs y ⟨rfl, -⟩ u hu; simp at hu; rcases hu with rfl | rfl <;> rfl) (by omega) (by decide) ?_)
    intro p' c' w2 hacc hw2
    clear hs hsl hnil
    go_wp2_with fail
    go_ret
    exact ⟨_, _, rfl, hacc, hw2⟩
end Go.Proofs.YteanedcfiellkaaDoor
