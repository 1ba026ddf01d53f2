/- Where an erratum finds its text, and what comes of it. No program in sight but types. -/
import Derived.Test.YteanedcfiellkaaDoorEg
import Derived.Test.YteanedcfiellkaaDoorEa
namespace Go.Proofs.YteanedcfiellkaaDoor
open Go.RowKit

/-- Where a text is: the title of final i, or the name of its credit k. -/
structure Loc where
  i : Nat
  k : Option Nat
def whereF (xs : List Fin4) (x : Err5) : Option Loc :=
  match finOf xs x.paper with
  | none => none
  | some f => if x.field = 1 then some ⟨(findG (isPaper x.paper) 0 xs).toNat, none⟩ else if findG (hasKey x.key) 0 f.credits < 0 then none else some ⟨(findG (isPaper x.paper) 0 xs).toNat, some (findG (hasKey x.key) 0 f.credits).toNat⟩
def textAt (f : Fin4) : Option Nat → ByteArray
  | none => f.title
  | some k => match f.credits[k]? with | some c => c.name | none => ⟨#[]⟩
def withText (f : Fin4) (s : ByteArray) : Option Nat → Fin4
  | none => { f with title := s }
  | some k => { f with credits := match f.credits[k]? with | some c => f.credits.set k { c with name := s } | none => f.credits }
def getF (xs : List Fin4) (l : Loc) : ByteArray := match xs[l.i]? with | some f => textAt f l.k | none => ⟨#[]⟩
def setF (xs : List Fin4) (l : Loc) (s : ByteArray) : List Fin4 := match xs[l.i]? with | some f => xs.set l.i (withText f s l.k) | none => xs
/-- Errata, one by one: the error, the finals, how many were applied. -/
def applyF (xs : List Fin4) (n : Int) : List Err5 → Int × List Fin4 × Int
  | [] => (0, xs, n)
  | x :: l => match whereF xs x with
    | none => (8, [], 0)
    | some p => if getF xs p = x.old then applyF (setF xs p x.new) (n + 1) l else if getF xs p = x.new then applyF xs n l else (13, [], 0)

theorem setF_papers (xs : List Fin4) (l : Loc) (s : ByteArray) : (setF xs l s).map (·.paper) = xs.map (·.paper) := by
  unfold setF
  cases h : xs[l.i]? with
  | none => rfl
  | some f =>
    simp only
    apply List.ext_getElem?
    intro j
    simp only [List.getElem?_map, List.getElem?_set]
    obtain ⟨hi, hf⟩ := List.getElem?_eq_some_iff.1 h
    by_cases e : l.i = j
    · subst e
      rw [if_pos rfl, if_pos hi, h]
      cases hk : l.k <;> simp [withText]
    · rw [if_neg e]
theorem rises_papers {xs ys : List Fin4} (h : xs.map (·.paper) = ys.map (·.paper)) (hr : Rises xs) : Rises ys := by
  unfold Rises at *
  have h1 : (xs.map (·.paper)).Pairwise fun x y => Op.bytesLess x.toList y.toList = true := List.pairwise_map.2 hr
  rw [h] at h1
  exact List.pairwise_map.1 h1
theorem setF_rises {xs : List Fin4} (hr : Rises xs) (l : Loc) (s : ByteArray) : Rises (setF xs l s) := rises_papers (setF_papers xs l s).symm hr
theorem setF_length (xs : List Fin4) (l : Loc) (s : ByteArray) : (setF xs l s).length = xs.length := by
  unfold setF; split <;> simp

/-- A store into cell 2 k + 1 of a row of credits. -/
theorem Acc.setName {F : Nat → Prop} {B : Nat} {w : World} {T : TypeId} {cs : List Cred} {g cap n : Nat} (h : Acc RCred 2 T F B w (.slice (some ⟨g, 0, none⟩) n cap) cs) {k : Nat} {c : Cred} (hc : cs[k]? = some c) (s : ByteArray) (hs : s.size ≤ 1000000) :
    Acc RCred 2 T F B (w.setCell ⟨g, k * 2 + 1, none⟩ (.string s)) (.slice (some ⟨g, 0, none⟩) n cap) (cs.set k { c with name := s }) := by
  obtain ⟨hk, hck⟩ := List.getElem?_eq_some_iff.1 hc
  have hi : AccI RCred 2 T (fun _ k => F k) B w (.slice (some ⟨g, 0, none⟩) n cap) cs := h
  have h2 := hi.set RCred.ok (i := k) (j := 1) hk (by decide) (.string s) { c with name := s } (by
    rintro vs ⟨rfl, h1, h2⟩
    rw [hck] at *
    exact ⟨rfl, h1, hs⟩)
  exact h2
end Go.Proofs.YteanedcfiellkaaDoor
