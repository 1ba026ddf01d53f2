/- A gathered slice of which one element is being changed. No program in sight. -/
import Derived.Test.YtdgpminhkiilfaaGreatDoorZe
namespace Go.Proofs.YtdgpminhkiilfaaGreatDoor
open Go.RowKit

/-- Element i of the gathered slice has the cells vs; all the others read as they should. -/
def AccH {α : Type} (R : Rel α) (sz : Nat) (T : TypeId) (F : Nat → Nat → Prop) (B : Nat) (w : World) (v : Value) (xs : List α) (i : Nat) (vs : List Value) : Prop :=
  ∃ cells : List Value, w.ownsRow B T sz v xs.length cells ∧ i < xs.length ∧ (cells.drop (i * sz)).take sz = vs ∧ ∀ (m : Nat) (h : m < xs.length), m ≠ i → R (fun k => F m k ∧ v.ownBlock ≠ some k) w ((cells.drop (m * sz)).take sz) xs[m]

section
variable {α : Type} {R : Rel α} {sz : Nat} {T : TypeId} {F : Nat → Nat → Prop} {B : Nat} {w w' : World} {v : Value} {xs : List α} {i : Nat} {vs : List Value}

theorem AccI.open (h : AccI R sz T F B w v xs) (hi : i < xs.length) : ∃ vs, AccH R sz T F B w v xs i vs ∧ R (fun k => F i k ∧ v.ownBlock ≠ some k) w vs xs[i] := by
  obtain ⟨cells, ho, he⟩ := h
  exact ⟨_, ⟨cells, ho, hi, rfl, fun m hm _ => he m hm⟩, he i hi⟩
theorem AccH.close (h : AccH R sz T F B w v xs i vs) {y : α} (hy : R (fun k => F i k ∧ v.ownBlock ≠ some k) w vs y) : AccI R sz T F B w v (xs.set i y) := by
  obtain ⟨cells, ho, hi, hv, he⟩ := h
  refine ⟨cells, by simpa using ho, fun m hm => ?_⟩
  simp only [List.length_set] at hm
  by_cases hmi : m = i
  · subst hmi
    rw [hv, List.getElem_set_self]; exact hy
  · rw [List.getElem_set_ne (Ne.symm hmi)]; exact he m hm hmi
theorem AccH.lt (h : AccH R sz T F B w v xs i vs) : ∀ k, v.ownBlock = some k → B ≤ k ∧ k < w.heap.size := by
  obtain ⟨cells, ho, _⟩ := h
  exact ho.lt
theorem AccH.keep (ok : R.Ok) {G : Nat → Prop} (h : AccH R sz T F B w v xs i vs) (hk : Kept G w w') (hF : ∀ m k, m ≠ i → F m k → v.ownBlock ≠ some k → k < w.heap.size → G k) (hg : ∀ k, v.ownBlock = some k → G k) : AccH R sz T F B w' v xs i vs := by
  obtain ⟨cells, ho, hi, hv, he⟩ := h
  refine ⟨cells, ownsRow_kept ho hk hg, hi, hv, fun m hm hmi => ?_⟩
  exact ok.mono (fun k hk => hk.1) (ok.keep (hk.mono fun k hk => hF m k hmi hk.1.1 hk.1.2 hk.2) (ok.live (he m hm hmi)))
theorem AccH.keepAll (ok : R.Ok) (h : AccH R sz T F B w v xs i vs) (hk : All w w') : AccH R sz T F B w' v xs i vs := h.keep ok hk (fun _ _ _ _ _ _ => trivial) (fun _ _ => trivial)
theorem AccH.live (ok : R.Ok) (h : AccH R sz T F B w v xs i vs) : AccH R sz T (fun m k => F m k ∧ k < w.heap.size) B w v xs i vs := by
  obtain ⟨cells, ho, hi, hv, he⟩ := h
  exact ⟨cells, ho, hi, hv, fun m hm hmi => ok.mono (fun k hk => ⟨⟨hk.1.1, hk.2⟩, hk.1.2⟩) (ok.live (he m hm hmi))⟩
theorem AccH.mono (ok : R.Ok) {G : Nat → Nat → Prop} (h : AccH R sz T F B w v xs i vs) (hF : ∀ m k, m ≠ i → F m k → G m k) : AccH R sz T G B w v xs i vs := by
  obtain ⟨cells, ho, hi, hv, he⟩ := h
  exact ⟨cells, ho, hi, hv, fun m hm hmi => ok.mono (fun k hk => ⟨hF m k hmi hk.1, hk.2⟩) (he m hm hmi)⟩
/-- Where the element lies. -/
theorem AccH.form (h : AccH R sz T F B w v xs i vs) : ∃ g cap, v = .slice (some ⟨g, 0, none⟩) xs.length cap ∧ xs.length ≤ cap ∧ B ≤ g := by
  obtain ⟨cells, ho, hi, hv, he⟩ := h
  rcases ho.2 with ⟨hv, hn⟩ | ⟨g, cap, cur, hv, hg, _, hle, _⟩
  · omega
  · exact ⟨g, cap, hv, hle, hg⟩
theorem AccH.cell {g n cap : Nat} (h : AccH R sz T F B w (.slice (some ⟨g, 0, none⟩) n cap) xs i vs) {j : Nat} {u : Value} (hj : vs[j]? = some u) : w.cell? ⟨g, i * sz + j, none⟩ = some u := by
  obtain ⟨cells, ho, hi, hv, he⟩ := h
  have h3 : cells[i * sz + j]? = some u := by
    rw [← hv, List.getElem?_take] at hj
    split at hj
    · rw [List.getElem?_drop] at hj; exact hj
    · cases hj
  have h4 := ho.cells (g := g) rfl (i * sz + j) _ h3
  have hadd : (⟨g, 0, none⟩ : Addr).add (i * sz + j) = ⟨g, i * sz + j, none⟩ := by
    unfold Addr.add; split
    · rename_i h0; rw [h0]
    · simp
  rw [← hadd]; exact h4
theorem AccH.frozen {g n cap : Nat} (h : AccH R sz T F B w (.slice (some ⟨g, 0, none⟩) n cap) xs i vs) (j : Nat) : w.frozen? ⟨g, j, none⟩ = false := by
  obtain ⟨cells, ho, hi, hv, he⟩ := h
  rcases ho.2 with ⟨h0, hn⟩ | ⟨g', cap', cur, hv, hb, hgg, _⟩
  · cases h0
  · cases hv
    simp only [World.frozen?, hgg]; simp
/-- A store into cell j of element i. -/
theorem AccH.set (ok : R.Ok) {g n cap : Nat} (h : AccH R sz T F B w (.slice (some ⟨g, 0, none⟩) n cap) xs i vs) {j : Nat} (hj : j < sz) (u : Value) :
    AccH R sz T F B (w.setCell ⟨g, i * sz + j, none⟩ u) (.slice (some ⟨g, 0, none⟩) n cap) xs i (vs.set j u) := by
  obtain ⟨cells, ho, hi, hv, he⟩ := h
  have hcl := ho.1
  have h2 : (i + 1) * sz ≤ xs.length * sz := Nat.mul_le_mul_right _ hi
  rw [Nat.add_mul] at h2
  refine ⟨cells.set (i * sz + j) u, ?_, hi, ?_, fun m hm hmi => ?_⟩
  · refine ⟨by simpa using hcl, ?_⟩
    rcases ho.2 with ⟨h0, hn⟩ | ⟨g', cap', cur, hv, hb, hgg, hnc, hcm, hcs, htake⟩
    · cases h0
    · cases hv
      have hh : (w.setCell ⟨g, i * sz + j, none⟩ u).heap[g]? = some (.cells (cur.setIfInBounds (i * sz + j) u) T (0, 0)) := by
        simp [World.setCell, Array.getElem?_modify, hgg]
      refine .inr ⟨g, cap, _, rfl, hb, hh, hnc, hcm, by simpa using hcs, ?_⟩
      rw [Array.toList_setIfInBounds, List.take_set, htake]
  · rw [List.drop_set, if_neg (by omega), List.take_set, hv]
    congr 1
    omega
  · have e2 : ((cells.set (i * sz + j) u).drop (m * sz)).take sz = (cells.drop (m * sz)).take sz := by
      apply List.ext_getElem?
      intro t
      by_cases ht : t < sz
      · simp only [List.getElem?_take, if_pos ht, List.getElem?_drop, List.getElem?_set]
        have hne : ¬ i * sz + j = m * sz + t := by
          rcases Nat.lt_or_gt_of_ne hmi with h3 | h3
          · have : (m + 1) * sz ≤ i * sz := Nat.mul_le_mul_right _ h3
            rw [Nat.add_mul] at this; omega
          · have : (i + 1) * sz ≤ m * sz := Nat.mul_le_mul_right _ h3
            rw [Nat.add_mul] at this; omega
        rw [if_neg hne]
      · simp [List.getElem?_take, ht]
    rw [e2]
    exact ok.keep (Kept.setCell _ _ _ (by simp [Value.ownBlock])) (he m hm hmi)
end
end Go.Proofs.YtdgpminhkiilfaaGreatDoor
