/- Flat elements: an element is a few cells that hold no address; setting an element of a row of the call's own, clearing its end, what a filter keeps. No program in sight. -/
import Derived.Test.YtjbaijgdkkccbaaGreatDoorZc
import Derived.Lib.SliceRun
import Derived.Test.YtjbaijgdkkccbaaGreatDoorZi
namespace Go.Proofs.YtjbaijgdkkccbaaGreatDoor
open Go.RowKit

/-- R reads an element by its cells alone. -/
structure Flat {α : Type} (R : Rel α) (enc : α → List Value) (S : α → Prop) (sz : Nat) : Prop where
  iff : ∀ F w vs x, R F w vs x ↔ (vs = enc x ∧ S x)
  len : ∀ x, (enc x).length = sz
  pos : 0 < sz
  one : ∀ x, ∀ u ∈ enc x, u.oneCell' = true

section
variable {α : Type} {R : Rel α} {enc : α → List Value} {S : α → Prop} {sz : Nat} {T : TypeId} {F : Nat → Prop} {B : Nat} {w w' : World} {v : Value} {xs : List α}

theorem Flat.ok (hR : Flat R enc S sz) : R.Ok :=
  ⟨fun _ h => (hR.iff _ _ _ _).2 ((hR.iff _ _ _ _).1 h), fun _ h => (hR.iff _ _ _ _).2 ((hR.iff _ _ _ _).1 h), fun h => (hR.iff _ _ _ _).2 ((hR.iff _ _ _ _).1 h)⟩
end

section
variable {α : Type}
/-- What a filter leaves. -/
abbrev keptA (p : α → Bool) (xs : List α) : List α := xs.filter fun x => !p x
theorem keptA_none {p : α → Bool} {xs : List α} (h : xs.any p = false) : keptA p xs = xs := by
  rw [keptA, List.filter_eq_self]
  intro a ha
  rw [List.any_eq_false] at h
  simpa using h a ha
/-- DeleteFunc at work: what stood before place j is sifted to the front i of qs; from j on all is as it was. -/
structure Sift (p : α → Bool) (xs qs : List α) (i j : Nat) : Prop where
  len : qs.length = xs.length
  pre : qs.take i = keptA p (xs.take j)
  il : (keptA p (xs.take j)).length = i
  rest : ∀ t, j ≤ t → qs[t]? = xs[t]?
  lt : i < j
theorem Sift.start {p : α → Bool} {xs : List α} {i : Nat} {y : α} (hy : xs[i]? = some y) (hp : p y = true) (hn : (xs.take i).any p = false) : Sift p xs xs i (i + 1) := by
  have hi := (List.getElem?_eq_some_iff.1 hy).1
  have e : keptA p (xs.take (i + 1)) = xs.take i := by
    rw [List.take_add_one, hy, keptA, List.filter_append]
    have := keptA_none hn
    rw [keptA] at this
    rw [this]
    simp [hp]
  exact ⟨rfl, e.symm, by rw [e]; simp; omega, fun _ _ => rfl, by omega⟩
theorem Sift.drop {p : α → Bool} {xs qs : List α} {i j : Nat} {y : α} (h : Sift p xs qs i j) (hy : xs[j]? = some y) (hp : p y = true) : Sift p xs qs i (j + 1) := by
  have e : keptA p (xs.take (j + 1)) = keptA p (xs.take j) := by
    rw [List.take_add_one, hy, keptA, List.filter_append]
    simp [hp]
  exact ⟨h.len, by rw [e]; exact h.pre, by rw [e]; exact h.il, fun t ht => h.rest t (by omega), by have := h.lt; omega⟩
theorem Sift.keep {p : α → Bool} {xs qs : List α} {i j : Nat} {y : α} (h : Sift p xs qs i j) (hy : xs[j]? = some y) (hp : p y = false) : Sift p xs (qs.set i y) (i + 1) (j + 1) := by
  have hj := (List.getElem?_eq_some_iff.1 hy).1
  have hlt := h.lt
  have hl := h.len
  have e : keptA p (xs.take (j + 1)) = keptA p (xs.take j) ++ [y] := by
    rw [List.take_add_one, hy, keptA, List.filter_append]
    simp [hp]
  refine ⟨by simp [hl], ?_, by rw [e]; simp [h.il], fun t ht => ?_, by omega⟩
  · rw [e, ← h.pre, List.take_add_one, List.getElem?_set_self (by omega), List.take_set_of_le (Nat.le_refl _)]
    rfl
  · rw [List.getElem?_set_ne (by omega)]
    exact h.rest t (by omega)
end

end Go.Proofs.YtjbaijgdkkccbaaGreatDoor

/- What the operations of a region that draws its order leave, where nothing that was there changes. -/
namespace Go.Proofs.YtjbaijgdkkccbaaGreatDoor
open Go.RowKit

/-- The value is this one. -/
def QIs (u : Value) (v : Value) (_ : World) : Prop := v = u
theorem QIs.stays (u : Value) : Stays All (QIs u) := fun _ _ _ _ h => h
/-- A row of the call's own reads so. -/
def QAcc {α : Type} (R : Rel α) (sz : Nat) (T : TypeId) (B : Nat) (xs : List α) (v : Value) (w : World) : Prop := ∃ p c, v = .slice p xs.length c ∧ Acc R sz T (fun _ => False) B w (.slice p xs.length c) xs
theorem QAcc.stays {α : Type} {R : Rel α} (ok : R.Ok) (sz : Nat) (T : TypeId) (B : Nat) (xs : List α) : Stays All (QAcc R sz T B xs) := fun _ _ _ k ⟨p, c, h1, h2⟩ => ⟨p, c, h1, h2.keepAll ok k⟩
/-- A slice of one element that was written out. -/
def QRow (cs : Array Value) (T : TypeId) (v : Value) (w : World) : Prop := ∃ b, v = .slice (some ⟨b, 0, none⟩) 1 1 ∧ w.heap[b]? = some (.cells cs T (0, 0))
theorem QRow.stays (cs : Array Value) (T : TypeId) : Stays All (QRow cs T) := fun _ _ _ k ⟨b, h1, h2⟩ => ⟨b, h1, k.heap h2 trivial⟩
end Go.Proofs.YtjbaijgdkkccbaaGreatDoor

/- A region that draws its order and holds operations behind one guard ('a && f(b)', 'a || f(b)'). No program in sight. -/
namespace Go.Proofs.YtjbaijgdkkccbaaGreatDoor
open Go.RowKit

/-- What is still to be walked, closed: the elaborator looks not into it (it would try to decide its guards at each step). -/
structure WPL (P : Program) (ops : Array Oper) (Q : Exit → Act → World → Prop) (l : List Oper) (a : Act) (w : World) : Prop where
  out : wpList P ops Q l a w

end Go.Proofs.YtjbaijgdkkccbaaGreatDoor

/- Places in rows of strings; rows of numbers under All. -/
namespace Go.Proofs.YtjbaijgdkkccbaaGreatDoor
open Go.RowKit

/-- A place in a row of strings. -/
def PStrAt (σ : St) (ss : List ByteArray) (v : Value) (w : World) : Prop := ∃ b i, v = .pointer (some ⟨b, i, none⟩) ∧ i < ss.length ∧ b ≠ σ.b ∧ w.heap[b]? = some (.cells (ss.map Value.string).toArray 9 (0, 0))
theorem PStrAt.stays (σ : St) (ss : List ByteArray) : Stays (fun w w' => But σ.b w w') (PStrAt σ ss) := fun _ _ _ k ⟨b, i, h1, h2, h3, h4⟩ => ⟨b, i, h1, h2, h3, k.heap h4 h3⟩
/-- A row of numbers that was written out. -/
def QInts (zs : List Int) (T : TypeId) (v : Value) (w : World) : Prop := ∃ b, v = .slice (some ⟨b, 0, none⟩) zs.length zs.length ∧ w.heap[b]? = some (.cells (zs.map (Value.int .i64)).toArray T (0, 0))
theorem QInts.stays (zs : List Int) (T : TypeId) : Stays All (QInts zs T) := fun _ _ _ k ⟨b, h1, h2⟩ => ⟨b, h1, k.heap h2 trivial⟩
end Go.Proofs.YtjbaijgdkkccbaaGreatDoor
