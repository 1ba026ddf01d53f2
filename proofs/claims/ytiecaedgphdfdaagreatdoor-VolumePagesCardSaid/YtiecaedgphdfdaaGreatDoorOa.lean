/- Strings in order; finals that rise; where a final is. No program in sight. -/
import Derived.Test.YtiecaedgphdfdaaGreatDoorGe
import Derived.Test.YtiecaedgphdfdaaGreatDoorQc
namespace Go.Proofs.YtiecaedgphdfdaaGreatDoor
open Go.RowKit

/-- Papers rise. -/
def Rises (xs : List Fin4) : Prop := xs.Pairwise fun x y => Op.bytesLess x.paper.toList y.paper.toList = true
theorem finF_ord {p : Option ByteArray} {x : Fin4} (h : finF p x = 0) : ordB p x.paper = false := by
  unfold finF at h
  split at h
  · omega
  · split at h
    · omega
    · rename_i h1; simpa using h1
theorem finF_pages {p : Option ByteArray} {x : Fin4} (h : finF p x = 0) : 1 ≤ x.pages ∧ x.pages ≤ 100 := by
  unfold finF at h
  split at h
  · omega
  · split at h
    · omega
    · split at h
      · omega
      · split at h
        · omega
        · omega
theorem finsF_rises : ∀ {xs : List Fin4} {p : Option ByteArray}, finsF p xs = 0 → Rises xs ∧ (∀ q, p = some q → ∀ x ∈ xs, Op.bytesLess q.toList x.paper.toList = true) ∧ ∀ x ∈ xs, 1 ≤ x.pages ∧ x.pages ≤ 100
  | [], _, _ => ⟨List.Pairwise.nil, by simp, by simp⟩
  | x :: l, p, h => by
    rw [finsF_cons] at h
    by_cases hf : finF p x = 0
    · rw [if_neg (by simp [hf])] at h
      obtain ⟨h1, h2, h3⟩ := finsF_rises h
      have hx : ∀ q, p = some q → Op.bytesLess q.toList x.paper.toList = true := fun q hq => by
        have := finF_ord hf
        subst hq
        exact leB_false this
      refine ⟨List.pairwise_cons.2 ⟨fun y hy => h2 _ rfl y hy, h1⟩, fun q hq y hy => ?_, fun y hy => ?_⟩
      · rcases List.mem_cons.1 hy with rfl | hy
        · exact hx q hq
        · exact bl_trans (hx q hq) (h2 _ rfl y hy)
      · rcases List.mem_cons.1 hy with rfl | hy
        · exact finF_pages hf
        · exact h3 y hy
    · rw [if_pos hf] at h
      exact absurd h hf
theorem finalsF_rises {xs : List Fin4} (h : finalsF xs = 0) : Rises xs ∧ ∀ x ∈ xs, 1 ≤ x.pages ∧ x.pages ≤ 100 := by
  unfold finalsF at h
  split at h
  · omega
  · exact ⟨(finsF_rises h).1, (finsF_rises h).2.2⟩

def isPaper (p : ByteArray) (f : Fin4) : Bool := decide (f.paper = p)
/-- The final of a paper. -/
def finOf (xs : List Fin4) (p : ByteArray) : Option Fin4 := xs.find? (isPaper p)
/-- How many papers are before p. -/
def cntOf (xs : List Fin4) (p : ByteArray) : Nat := xs.countP fun f => Op.bytesLess f.paper.toList p.toList

theorem cnt_boundary : ∀ {xs : List Fin4} {p : ByteArray} {i : Nat}, i ≤ xs.length → (∀ (t : Nat) (f : Fin4), xs[t]? = some f → t < i → Op.bytesLess f.paper.toList p.toList = true) → (∀ (t : Nat) (f : Fin4), xs[t]? = some f → i ≤ t → Op.bytesLess f.paper.toList p.toList = false) → cntOf xs p = i
  | [], p, i, hi, _, _ => by simp at hi; simp [cntOf, hi]
  | a :: r, p, 0, _, _, h2 => by
    unfold cntOf
    rw [List.countP_eq_zero]
    intro x hx
    obtain ⟨t, ht, rfl⟩ := List.getElem_of_mem hx
    have := h2 t _ (List.getElem?_eq_getElem ht) (Nat.zero_le _)
    simp [this]
  | a :: r, p, i + 1, hi, h1, h2 => by
    have ha := h1 0 a rfl (Nat.succ_pos _)
    unfold cntOf
    rw [List.countP_cons_of_pos (by exact ha)]
    have := cnt_boundary (xs := r) (p := p) (i := i) (by simpa using hi) (fun t f hf ht => h1 (t + 1) f (by simpa using hf) (by omega)) (fun t f hf ht => h2 (t + 1) f (by simpa using hf) (by omega))
    unfold cntOf at this
    rw [this]
/-- Where papers rise, a paper stands behind all that are before it. -/
theorem finOf_cnt : ∀ {xs : List Fin4} {p : ByteArray} {f : Fin4}, Rises xs → finOf xs p = some f → xs[cntOf xs p]? = some f ∧ f.paper = p
  | [], _, _, _, h => by cases h
  | a :: r, p, f, hr, h => by
    obtain ⟨h1, h2⟩ := List.pairwise_cons.1 hr
    unfold finOf at h
    rw [List.find?_cons] at h
    by_cases e : a.paper = p
    · have : isPaper p a = true := by simp [isPaper, e]
      rw [this] at h
      injection h with h
      subst h
      have hc : cntOf (a :: r) p = 0 := by
        unfold cntOf
        rw [List.countP_eq_zero]
        intro x hx
        rcases List.mem_cons.1 hx with rfl | hx
        · rw [e]; simp [bl_irrefl]
        · intro hb
          have := bl_trans (h1 x hx) hb
          rw [e, bl_irrefl] at this; cases this
      rw [hc]
      exact ⟨rfl, e⟩
    · have : isPaper p a = false := by simp [isPaper, e]
      rw [this] at h
      obtain ⟨h3, h4⟩ := finOf_cnt h2 h
      refine ⟨?_, h4⟩
      have hm : f ∈ r := List.mem_of_find?_eq_some h
      have hlt : Op.bytesLess a.paper.toList p.toList = true := by rw [← h4]; exact h1 f hm
      have hc : cntOf (a :: r) p = cntOf r p + 1 := by unfold cntOf; rw [List.countP_cons_of_pos (by exact hlt)]
      rw [hc]
      exact h3
theorem finOf_none {xs : List Fin4} {p : ByteArray} (h : finOf xs p = none) {i : Nat} {f : Fin4} (hi : xs[i]? = some f) : f.paper ≠ p := by
  have := List.find?_eq_none.1 h f (List.mem_of_getElem? hi)
  simpa [isPaper] using this
theorem finOf_has {xs : List Fin4} {p : ByteArray} {i : Nat} {f : Fin4} (hi : xs[i]? = some f) (hp : f.paper = p) : (finOf xs p).isSome = true := by
  unfold finOf
  rw [List.find?_isSome]
  exact ⟨f, List.mem_of_getElem? hi, by simp [isPaper, hp]⟩
theorem findG_find {α : Type} {p : α → Bool} : ∀ {xs : List α} {k : Nat}, (xs.find? p = none ∧ findG p k xs = -1) ∨ ∃ (i : Nat) (f : α), xs.find? p = some f ∧ findG p k xs = ((k + i : Nat) : Int) ∧ xs[i]? = some f
  | [], k => Or.inl ⟨rfl, rfl⟩
  | a :: r, k => by
    rw [findG, List.find?_cons]
    cases h : p a with
    | true => exact Or.inr ⟨0, a, rfl, by simp, rfl⟩
    | false =>
      rcases findG_find (p := p) (xs := r) (k := k + 1) with ⟨h1, h2⟩ | ⟨i, f, h1, h2, h3⟩
      · exact Or.inl ⟨h1, by simpa using h2⟩
      · exact Or.inr ⟨i + 1, f, h1, by rw [if_neg (by simp), h2]; omega, by simpa using h3⟩
end Go.Proofs.YtiecaedgphdfdaaGreatDoor
