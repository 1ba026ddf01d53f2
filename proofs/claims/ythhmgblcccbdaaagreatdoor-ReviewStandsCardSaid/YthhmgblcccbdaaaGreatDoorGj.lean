/- Where the first is that a predicate holds of; what makeFunc leaves. -/
import Derived.Test.YthhmgblcccbdaaaGreatDoorZc
import Derived.Test.YthhmgblcccbdaaaGreatDoorProg
namespace Go.Proofs.YthhmgblcccbdaaaGreatDoor
open Go.RowKit

def findG {α : Type} (p : α → Bool) : Nat → List α → Int
  | _, [] => -1
  | k, s :: l => if p s = true then k else findG p (k + 1) l
theorem findG_neg {α : Type} {p : α → Bool} : ∀ {ss : List α} {k : Nat}, ss.any p = false → findG p k ss = -1
  | [], _, _ => rfl
  | s :: l, k, h => by
    simp only [List.any_cons, Bool.or_eq_false_iff] at h
    rw [findG, if_neg (by simp [h.1])]
    exact findG_neg h.2
theorem findG_nonneg {α : Type} {p : α → Bool} : ∀ {ss : List α} {k : Nat}, ss.any p = true → 0 ≤ findG p k ss
  | s :: l, k, h => by
    rw [findG]
    by_cases e : p s = true
    · rw [if_pos e]; omega
    · rw [if_neg e]
      simp only [List.any_cons, Bool.or_eq_true] at h
      exact findG_nonneg (h.resolve_left e)
theorem findG_append {α : Type} {p : α → Bool} : ∀ {a b : List α} {k : Nat}, a.any p = false → findG p k (a ++ b) = findG p (k + a.length) b
  | [], b, k, _ => by simp
  | s :: l, b, k, h => by
    simp only [List.any_cons, Bool.or_eq_false_iff] at h
    rw [List.cons_append, findG, if_neg (by simp [h.1]), findG_append h.2]
    simp only [List.length_cons]
    congr 1
    omega
theorem findG_find {α : Type} {p : α → Bool} : ∀ {xs : List α} {k : Nat}, (xs.find? p = none ∧ findG p k xs = -1) ∨ ∃ (i : Nat) (f : α), xs.find? p = some f ∧ findG p k xs = ((k + i : Nat) : Int) ∧ xs[i]? = some f
  | [], k => Or.inl ⟨rfl, rfl⟩
  | a :: r, k => by
    rw [findG, List.find?_cons]
    cases h : p a with
    | true => exact Or.inr ⟨0, a, rfl, by simp, rfl⟩
    | false =>
      rcases findG_find (p := p) (xs := r) (k := k + 1) with ⟨h1, h2⟩ | ⟨i, f, h1, h2, h3⟩
      · exact Or.inl ⟨h1, by simpa using h2⟩
      · exact Or.inr ⟨i + 1, f, h1, by rw [if_neg (by simp), h2]; omega, by simpa using h3⟩
theorem hmfC : ∀ (fn : Fn) (first cap : Array Value) (w : World), (Instr.makeFunc fn first cap).run Tryz.prog w = .ok (.func fn first cap) w := fun _ _ _ _ => rfl
end Go.Proofs.YthhmgblcccbdaaaGreatDoor
