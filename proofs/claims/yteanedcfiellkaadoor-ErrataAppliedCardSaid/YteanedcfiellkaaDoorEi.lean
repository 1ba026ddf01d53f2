/- The texts of finals that are copied: where they lie, what a store does. No program in sight but types. -/
import Derived.Test.YteanedcfiellkaaDoorEh
namespace Go.Proofs.YteanedcfiellkaaDoor
open Go.RowKit

/-- Finals that the call has copied. -/
abbrev Own (B0 : Nat) (tag : Nat → Nat) (xs : List Fin4) (v : Value) (w : World) : Prop := AccI (RFinO 1000) 4 65 (Tag B0 tag) B0 w v xs
/-- The text of l lies at ad, and may be written. -/
structure Place (B0 : Nat) (tag : Nat → Nat) (xs : List Fin4) (v : Value) (w : World) (l : Loc) (ad : Addr) : Prop where
  cell : w.cell? ad = some (.string (getF xs l))
  free : w.frozen? ad = false
  small : (getF xs l).size ≤ 1000000
  base : B0 ≤ ad.block
  store : ∀ s : ByteArray, s.size ≤ 1000000 → Own B0 tag (setF xs l s) v (w.setCell ad (.string s))

theorem place_title {B0 : Nat} {tag : Nat → Nat} {xs : List Fin4} {w : World} {g n cap i : Nat} {f : Fin4} (h : Own B0 tag xs (.slice (some ⟨g, 0, none⟩) n cap) w) (hi : xs[i]? = some f) :
    Place B0 tag xs (.slice (some ⟨g, 0, none⟩) n cap) w ⟨i, none⟩ ⟨g, i * 4 + 1, none⟩ := by
  obtain ⟨hil, hf⟩ := List.getElem?_eq_some_iff.1 hi
  obtain ⟨vs, hH, cv, rfl, hsm, hcs, hown⟩ := h.open hil
  have hg : getF xs ⟨i, none⟩ = f.title := by simp [getF, hi, textAt]
  rw [hf] at *
  refine ⟨by rw [hg]; exact hH.cell (j := 1) rfl, hH.frozen _, by rw [hg]; exact hsm.2.1, (hH.lt g rfl).1, fun s hs => ?_⟩
  have h1 := hH.set (RFinO.ok 1000) (j := 1) (by decide) (.string s)
  have hne : ∀ k, cv.ownBlock = some k → k ≠ g := fun k hk e => by subst e; exact (hown k hk).2 rfl
  have h2 := h1.close (y := { f with title := s }) ⟨cv, rfl, ⟨hsm.1, hs, hsm.2.2⟩, hcs.keep RCred.ok (Kept.setCell (F := fun k => k ≠ g) _ _ _ (by simp)) (fun _ h => h.elim) hne, hown⟩
  have e1 : setF xs ⟨i, none⟩ s = xs.set i { f with title := s } := by simp [setF, hi, withText]
  rw [e1]; exact h2

theorem place_name {B0 : Nat} {tag : Nat → Nat} {xs : List Fin4} {w : World} {g n cap i k : Nat} {f : Fin4} (h : Own B0 tag xs (.slice (some ⟨g, 0, none⟩) n cap) w) (hi : xs[i]? = some f) (hk : k < f.credits.length) :
    ∃ cb cc, w.cell? ⟨g, i * 4 + 3, none⟩ = some (.slice (some ⟨cb, 0, none⟩) f.credits.length cc) ∧ Place B0 tag xs (.slice (some ⟨g, 0, none⟩) n cap) w ⟨i, some k⟩ ⟨cb, k * 2 + 1, none⟩ := by
  obtain ⟨hil, hf⟩ := List.getElem?_eq_some_iff.1 hi
  obtain ⟨vs, hH, cv, rfl, hsm, hcs, hown⟩ := h.open hil
  rw [hf] at *
  obtain ⟨c, hc⟩ : ∃ c, f.credits[k]? = some c := ⟨_, List.getElem?_eq_getElem hk⟩
  have hci : AccI RCred 2 107 (fun _ _ => False) 0 w cv f.credits := hcs
  obtain ⟨cb, cc, ws, hcv, -, -, hcell, hfz, hR⟩ := hci.at hk
  subst hcv
  obtain ⟨rfl, hz1, hz2⟩ := hR
  have hck : f.credits[k] = c := by rw [List.getElem?_eq_getElem hk] at hc; injection hc
  have hg : getF xs ⟨i, some k⟩ = c.name := by simp [getF, hi, textAt, hc]
  subst hck
  have hb := hown cb rfl
  have hcg : cb ≠ g := fun e => by subst e; exact hb.2 rfl
  refine ⟨cb, cc, hH.cell (j := 3) rfl, by rw [hg]; exact hcell 1 (by simp), hfz _, by rw [hg]; exact hz2, hb.1.2, fun s hs => ?_⟩
  have h1 := hH.keep (RFinO.ok 1000) (Kept.setCell (F := fun j => j ≠ cb) w ⟨cb, k * 2 + 1, none⟩ (.string s) (by simp)) (fun m j hm hj _ _ e => hm (by subst e; exact hj.1.symm.trans hb.1.1)) (fun j hj e => by subst e; exact hb.2 hj)
  have h2 := h1.close (y := { f with credits := f.credits.set k { f.credits[k] with name := s } }) ⟨.slice (some ⟨cb, 0, none⟩) f.credits.length cc, rfl, ⟨hsm.1, hsm.2.1, hsm.2.2.1, hsm.2.2.2.1, by have := hsm.2.2.2.2; simpa using this⟩, hcs.setName hc s hs, hown⟩
  have e1 : setF xs ⟨i, some k⟩ s = xs.set i { f with credits := f.credits.set k { f.credits[k] with name := s } } := by simp only [setF, hi, withText, hc]
  rw [e1]; exact h2
end Go.Proofs.YteanedcfiellkaaDoor
