/- slices.Compact of pairs that the call gathered: what is left is pairs. -/
import Derived.Test.YtllkemadaemjeaaGreatDoorSa
import Derived.Test.YtllkemadaemjeaaGreatDoorZc
import Derived.Lib.SliceRun
namespace Go.Proofs.YtllkemadaemjeaaGreatDoor
open Go.RowKit

theorem Acc.pairRow {T : TypeId} {F : Nat → Prop} {B : Nat} {w : World} {v : Value} {ps : List Pair2} (h : Acc RPair 2 T F B w v ps) (hl : 0 < ps.length) :
    ∃ g cap cur, v = .slice (some ⟨g, 0, none⟩) ps.length cap ∧ B ≤ g ∧ w.heap[g]? = some (.cells cur T (0, 0)) ∧ ps.length ≤ cap ∧ cap ≤ maxLen ∧ cur.size = cap * 2 := by
  obtain ⟨cells, ho, he⟩ := h
  rcases ho.2 with ⟨-, h0⟩ | ⟨g, cap, cur, hv, hb, hg, h1, h2, h3, -⟩
  · omega
  · exact ⟨g, cap, cur, hv, hb, hg, h1, h2, h3⟩
/-- The cells of a row of pairs, by the block's own cells. -/
theorem Acc.pairCells {T : TypeId} {F : Nat → Prop} {B g n cap : Nat} {w : World} {ps : List Pair2} {cur : Array Value} (hg : w.heap[g]? = some (.cells cur T (0, 0))) (hb : B ≤ g) (hn : ps.length = n) (h1 : n ≤ cap) (h2 : cap ≤ maxLen) (h3 : cur.size = cap * 2)
    (hc : ∀ (i : Nat) (x : Pair2), ps[i]? = some x → cur[i * 2]? = some (.string x.paper) ∧ cur[i * 2 + 1]? = some (.string x.person)) : Acc RPair 2 T F B w (.slice (some ⟨g, 0, none⟩) n cap) ps := by
  have hle : n * 2 ≤ cap * 2 := Nat.mul_le_mul_right _ h1
  have hl : (cur.toList.take (n * 2)).length = n * 2 := by simp; omega
  refine ⟨cur.toList.take (n * 2), ⟨by rw [hl, hn], .inr ⟨g, cap, cur, by rw [hn], hb, hg, by omega, h2, h3, by rw [hn]⟩⟩, fun i hi => ?_⟩
  obtain ⟨e0, e1⟩ := hc i _ (List.getElem?_eq_getElem hi)
  have f0 : (cur.toList.take (n * 2))[i * 2]? = some (.string ps[i].paper) := by
    rw [List.getElem?_take_of_lt (by omega), Array.getElem?_toList]; exact e0
  have f1 : (cur.toList.take (n * 2))[i * 2 + 1]? = some (.string ps[i].person) := by
    rw [List.getElem?_take_of_lt (by omega), Array.getElem?_toList]; exact e1
  obtain ⟨k0, d0⟩ := List.getElem?_eq_some_iff.1 f0
  obtain ⟨k1, d1⟩ := List.getElem?_eq_some_iff.1 f1
  show _ = encP _
  rw [List.drop_eq_getElem_cons k0, List.drop_eq_getElem_cons k1, List.take_succ_cons, List.take_succ_cons, List.take_zero, d0, d1]
  rfl
theorem Acc.pairAt {T : TypeId} {F : Nat → Prop} {B g n cap : Nat} {w : World} {ps : List Pair2} {cur : Array Value} (h : Acc RPair 2 T F B w (.slice (some ⟨g, 0, none⟩) n cap) ps) (hg : w.heap[g]? = some (.cells cur T (0, 0))) {i : Nat} {x : Pair2} (hx : ps[i]? = some x) :
    cur[i * 2]? = some (.string x.paper) ∧ cur[i * 2 + 1]? = some (.string x.person) := by
  obtain ⟨a, c, hv, hs⟩ := h.sl RPair.ok (by decide) (G := fun _ => True) (fun _ _ => trivial) (fun _ _ => trivial)
  cases hv
  obtain ⟨hi, -⟩ := List.getElem?_eq_some_iff.1 hx
  obtain ⟨b, off, y, ha, -, c0, c1, hy, -, -⟩ := hs.atPair hi
  cases ha
  rw [hx] at hy
  injection hy with hy
  subst hy
  simp only [World.cell?, hg, Nat.zero_add] at c0 c1
  simpa using And.intro c0 c1
/-- A pair is written over. -/
theorem Acc.setPair {T : TypeId} {F : Nat → Prop} {B g n cap : Nat} {w : World} {ps : List Pair2} (h : Acc RPair 2 T F B w (.slice (some ⟨g, 0, none⟩) n cap) ps) (hn : 0 < n) (i : Nat) (hi : i < n) (y : Pair2) :
    Acc RPair 2 T F B ((w.setCell ⟨g, i * 2, none⟩ (.string y.paper)).setCell ⟨g, i * 2 + 1, none⟩ (.string y.person)) (.slice (some ⟨g, 0, none⟩) n cap) (ps.set i y) := by
  obtain ⟨a, c, hv, -⟩ := h.form
  cases hv
  obtain ⟨g', cap', cur, hv', hb, hg, h1, h2, h3⟩ := h.pairRow hn
  cases hv'
  have e0 := heap_setCell_at w g (i * 2) (.string y.paper) _ _ _ hg
  have e1 := heap_setCell_at _ g (i * 2 + 1) (.string y.person) _ _ _ e0
  have hle : (i + 1) * 2 ≤ cap * 2 := Nat.mul_le_mul_right _ (by omega)
  refine Acc.pairCells e1 hb (by simp) h1 h2 (by simpa using h3) (fun j x hx => ?_)
  by_cases hj : j = i
  · subst hj
    rw [List.getElem?_set_self hi] at hx
    injection hx with hx
    subst hx
    constructor
    · rw [Array.getElem?_setIfInBounds_ne (by omega), Array.getElem?_setIfInBounds_self_of_lt (by omega)]
    · rw [Array.getElem?_setIfInBounds_self_of_lt (by simp; omega)]
  · rw [List.getElem?_set_ne (fun e => hj e.symm)] at hx
    have := h.pairAt hg hx
    rw [Array.getElem?_setIfInBounds_ne (by omega), Array.getElem?_setIfInBounds_ne (by omega), Array.getElem?_setIfInBounds_ne (by omega), Array.getElem?_setIfInBounds_ne (by omega)]
    exact this

theorem heap_setCells {b : Nat} {t : TypeId} {fz : Nat × Nat} : ∀ (vs : List Value) (w : World) (o : Nat) (cur : Array Value), w.heap[b]? = some (.cells cur t fz) →
    ∃ cur', (w.setCells b o vs).heap[b]? = some (.cells cur' t fz) ∧ cur'.size = cur.size ∧ ∀ i, i < o → cur'[i]? = cur[i]?
  | [], _, _, cur, h => ⟨cur, h, rfl, fun _ _ => rfl⟩
  | v :: r, w, o, cur, h => by
    have h1 := heap_setCell_at w b o v _ _ _ h
    obtain ⟨cur', h2, h3, h4⟩ := heap_setCells r _ (o + 1) _ h1
    refine ⟨cur', h2, by simpa using h3, fun i hi => ?_⟩
    rw [h4 i (by omega), Array.getElem?_setIfInBounds_ne (by omega)]
theorem kept_setCells {F : Nat → Prop} (b : Nat) (hF : ¬ F b) : ∀ (vs : List Value) (w : World) (o : Nat), Kept F w (w.setCells b o vs)
  | [], _, _ => Kept.refl _ _
  | v :: r, w, o => (Kept.setCell w ⟨b, o, none⟩ v hF).trans (kept_setCells b hF r _ (o + 1))
theorem run_clear_pairs {P : Program} (w : World) (t e ty : TypeId) (ht : P.underlying t = some (.slice e)) (hv : ∀ w, (zeroValue e).run P w = .ok (.agg #[.string ⟨#[]⟩, .string ⟨#[]⟩]) w) (b o n c : Nat) (hn : 0 < n)
    (hc : ∀ j, j < n * 2 → (w.cell? ⟨b, o + j, none⟩).isSome = true) (hf : ∀ j, j < n * 2 → w.frozen? ⟨b, o + j, none⟩ = false) :
    (Builtin.clear_ #[t] ty #[.slice (some ⟨b, o, none⟩) n c]).run P w = .ok (.tuple #[]) (w.setCells b o (List.replicate (n * 2) (.string ⟨#[]⟩))) := by
  have hzc : (Builtin.zeroCells (Value.agg #[.string ⟨#[]⟩, .string ⟨#[]⟩]).cells n).toList = List.replicate (n * 2) (.string ⟨#[]⟩) := by
    simp [Builtin.zeroCells, Value.cells]
    apply List.ext_getElem
    · simp
    · intro i h1 h2
      have : i % 2 = 0 ∨ i % 2 = 1 := by omega
      rcases this with h | h <;> simp [h]
  have hst := run_storeCells_cells (P := P) b o (List.replicate (n * 2) (.string ⟨#[]⟩)) 0 w (by simpa using hc) (by simpa using hf) (by intro v hv'; rw [List.eq_of_mem_replicate hv']; rfl)
  simp only [Nat.add_zero] at hst
  obtain ⟨m, rfl⟩ : ∃ m, n = m + 1 := ⟨n - 1, by omega⟩
  simp only [Value.cells] at hzc
  simp [Builtin.clear_, run_underlying ht, hv, hzc, hst, Value.cells]
end Go.Proofs.YtllkemadaemjeaaGreatDoor
