/- Finals that are copied one by one: the first ones have credits of their own. No program in sight but types. -/
import Derived.Test.YteanedcfiellkaaDoorEe
namespace Go.Proofs.YteanedcfiellkaaDoor
open Go.RowKit

/-- A final that has been copied whole (true), or one that shares its credits with blocks that were there before. -/
def RB (B0 : Nat) : Rel (Bool × Fin4) := fun F w vs y => if y.1 = true then RFinO 1000 (fun k => F k ∧ B0 ≤ k) w vs y.2 else RFin F w vs y.2
theorem RB.ok (B0 : Nat) : (RB B0).Ok := by
  refine ⟨?_, ?_, ?_⟩
  · rintro F w w' vs ⟨b, x⟩ hk h
    cases b
    · exact RFin.ok.keep hk h
    · exact (RFinO.ok 1000).keep (hk.mono fun k h => h.1) h
  · rintro F G w vs ⟨b, x⟩ hk h
    cases b
    · exact RFin.ok.mono hk h
    · exact (RFinO.ok 1000).mono (fun k h => ⟨hk k h.1, h.2⟩) h
  · rintro F w vs ⟨b, x⟩ h
    cases b
    · exact RFin.ok.live h
    · exact (RFinO.ok 1000).mono (fun k h => ⟨⟨h.1.1, h.2⟩, h.1.2⟩) ((RFinO.ok 1000).live h)
def Mix (B0 : Nat) (tag : Nat → Nat) (i k : Nat) : Prop := k < B0 ∨ tag k = i
/-- The first k have been copied. -/
def mixL (xs : List Fin4) (k : Nat) : List (Bool × Fin4) := xs.mapIdx fun i x => (decide (i < k), x)
theorem mixL_length (xs : List Fin4) (k : Nat) : (mixL xs k).length = xs.length := by simp [mixL]
theorem mixL_at (xs : List Fin4) (k i : Nat) : (mixL xs k)[i]? = (xs[i]?).map fun x => (decide (i < k), x) := by simp [mixL]
theorem mixL_next {xs : List Fin4} {k : Nat} {x : Fin4} (h : xs[k]? = some x) : mixL xs (k + 1) = (mixL xs k).set k (true, x) := by
  apply List.ext_getElem?
  intro i
  rw [mixL_at, List.getElem?_set, mixL_length, mixL_at]
  obtain ⟨hk, _⟩ := List.getElem?_eq_some_iff.1 h
  by_cases e : k = i
  · subst e
    rw [if_pos rfl, if_pos hk, h]
    simp
  · rw [if_neg e]
    congr 1
    funext y
    congr 1
    simp only [decide_eq_decide]
    omega
/-- What Clone has made. -/
theorem mix_start {B0 : Nat} {w : World} {v : Value} {xs : List Fin4} (h : Acc RFin 4 65 (fun k => k < B0) B0 w v xs) : AccI (RB B0) 4 65 (Mix B0 (fun _ => 0)) B0 w v (mixL xs 0) := by
  obtain ⟨cells, ho, he⟩ := h
  refine ⟨cells, by rw [mixL_length]; exact ho, fun i hi => ?_⟩
  have hi' : i < xs.length := by rw [mixL_length] at hi; exact hi
  have e1 : (mixL xs 0)[i] = (false, xs[i]) := by
    have := mixL_at xs 0 i
    rw [List.getElem?_eq_getElem hi, List.getElem?_eq_getElem hi'] at this
    simpa using this
  rw [e1]
  exact RFin.ok.mono (fun k hk => ⟨Or.inl hk.1, hk.2⟩) (he i hi')
/-- When all have been copied. -/
theorem mix_end {B0 k : Nat} {tag : Nat → Nat} {w : World} {v : Value} {xs : List Fin4} (h : AccI (RB B0) 4 65 (Mix B0 tag) B0 w v (mixL xs k)) (hk : xs.length ≤ k) : AccI (RFinO 1000) 4 65 (Tag B0 tag) B0 w v xs := by
  obtain ⟨cells, ho, he⟩ := h
  rw [mixL_length] at ho
  refine ⟨cells, ho, fun i hi => ?_⟩
  have hi' : i < (mixL xs k).length := by rw [mixL_length]; exact hi
  have h1 := he i hi'
  have e1 : (mixL xs k)[i] = (true, xs[i]) := by
    have := mixL_at xs k i
    rw [List.getElem?_eq_getElem hi', List.getElem?_eq_getElem hi] at this
    have hd : i < k := by omega
    simpa [hd] using this
  rw [e1] at h1
  refine (RFinO.ok 1000).mono (fun j hj => ⟨⟨?_, hj.2⟩, hj.1.2⟩) h1
  rcases hj.1.1 with h2 | h2
  · have := hj.2; omega
  · exact h2
/-- One final is copied: its credits lie in a row that is new since W. -/
theorem mix_next {B0 k g n cap : Nat} {tag : Nat → Nat} {W w2 : World} {xs : List Fin4} {x : Fin4} {cv0 : Value} {p2 : Option Addr} {c2 : Nat} (hx : xs[k]? = some x)
    (hH : AccH (RB B0) 4 65 (Mix B0 tag) B0 W (.slice (some ⟨g, 0, none⟩) n cap) (mixL xs k) k [.string x.paper, .string x.title, .int .i64 x.pages, cv0]) (hall : All W w2) (hsm : FinSmallR x)
    (hacc : Acc RCred 2 107 (fun _ => False) W.heap.size w2 (.slice p2 x.credits.length c2) x.credits) :
    AccI (RB B0) 4 65 (Mix B0 (retag W.heap.size k tag)) B0 (w2.setCell ⟨g, k * 4 + 3, none⟩ (.slice p2 x.credits.length c2)) (.slice (some ⟨g, 0, none⟩) n cap) (mixL xs (k + 1)) := by
  have hgl := (hH.lt g rfl).2
  have hBg := (hH.lt g rfl).1
  have h1 := (hH.live (RB.ok B0)).keepAll (RB.ok B0) hall
  have h2 : AccH (RB B0) 4 65 (Mix B0 (retag W.heap.size k tag)) B0 w2 (.slice (some ⟨g, 0, none⟩) n cap) (mixL xs k) k [.string x.paper, .string x.title, .int .i64 x.pages, cv0] :=
    h1.mono (RB.ok B0) (fun m j _ h => h.1.elim Or.inl (fun e => Or.inr (by rw [retag_old h.2]; exact e)))
  have h3 := h2.set (RB.ok B0) (j := 3) (by decide) (.slice p2 x.credits.length c2)
  rw [mixL_next hx]
  refine h3.close (y := (true, x)) ?_
  have hne : ∀ j, (Value.slice p2 x.credits.length c2).ownBlock = some j → W.heap.size ≤ j := fun j hj => (hacc.lt j hj).1
  refine ⟨_, rfl, hsm, (hacc.base (Nat.zero_le _)).keep RCred.ok (Kept.setCell (F := fun j => j ≠ g) _ _ _ (by simp)) (fun _ h => h.elim) (fun j hj => by have := hne j hj; omega), fun j hj => ⟨⟨Or.inr (retag_new (hne j hj)), fun e => ?_⟩, by have := hne j hj; omega⟩⟩
  have : g = j := by simpa [Value.ownBlock] using e
  have := hne j hj
  omega
end Go.Proofs.YteanedcfiellkaaDoor
