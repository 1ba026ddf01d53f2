/- Flat elements: an element is a few cells that hold no address; setting an element of a row of the call's own, clearing its end, what a filter keeps. No program in sight. -/
import Derived.Test.YtgobnlgmbplggaaGreatDoorZd
import Derived.Lib.SliceRun
namespace Go.Proofs.YtgobnlgmbplggaaGreatDoor
open Go.RowKit

/-- R reads an element by its cells alone. -/
structure Flat {α : Type} (R : Rel α) (enc : α → List Value) (S : α → Prop) (sz : Nat) : Prop where
  iff : ∀ F w vs x, R F w vs x ↔ (vs = enc x ∧ S x)
  len : ∀ x, (enc x).length = sz
  pos : 0 < sz
  one : ∀ x, ∀ u ∈ enc x, u.oneCell' = true

section
variable {α : Type} {R : Rel α} {enc : α → List Value} {S : α → Prop} {sz : Nat} {T : TypeId} {F : Nat → Prop} {B : Nat} {w w' : World} {v : Value} {xs : List α}

theorem Flat.ok (hR : Flat R enc S sz) : R.Ok :=
  ⟨fun _ h => (hR.iff _ _ _ _).2 ((hR.iff _ _ _ _).1 h), fun _ h => (hR.iff _ _ _ _).2 ((hR.iff _ _ _ _).1 h), fun h => (hR.iff _ _ _ _).2 ((hR.iff _ _ _ _).1 h)⟩
theorem Acc.flatRow (h : Acc R sz T F B w v xs) (hl : 0 < xs.length) :
    ∃ g cap cur, v = .slice (some ⟨g, 0, none⟩) xs.length cap ∧ B ≤ g ∧ w.heap[g]? = some (.cells cur T (0, 0)) ∧ xs.length ≤ cap ∧ cap ≤ maxLen ∧ cur.size = cap * sz := by
  obtain ⟨cells, ho, he⟩ := h
  rcases ho.2 with ⟨-, h0⟩ | ⟨g, cap, cur, hv, hb, hg, h1, h2, h3, -⟩
  · omega
  · exact ⟨g, cap, cur, hv, hb, hg, h1, h2, h3⟩
/-- A row, by its block's own cells. -/
theorem Acc.flatCells (hR : Flat R enc S sz) {g n cap : Nat} {cur : Array Value} (hg : w.heap[g]? = some (.cells cur T (0, 0))) (hb : B ≤ g) (hn : xs.length = n) (h1 : n ≤ cap) (h2 : cap ≤ maxLen) (h3 : cur.size = cap * sz)
    (hc : ∀ (i : Nat) (x : α), xs[i]? = some x → S x ∧ ∀ (j : Nat) (u : Value), (enc x)[j]? = some u → cur[i * sz + j]? = some u) : Acc R sz T F B w (.slice (some ⟨g, 0, none⟩) n cap) xs := by
  have hle : n * sz ≤ cap * sz := Nat.mul_le_mul_right _ h1
  have hl : (cur.toList.take (n * sz)).length = n * sz := by simp; omega
  refine ⟨cur.toList.take (n * sz), ⟨by rw [hl, hn], .inr ⟨g, cap, cur, by rw [hn], hb, hg, by omega, h2, h3, by rw [hn]⟩⟩, fun i hi => ?_⟩
  obtain ⟨hS, he⟩ := hc i _ (List.getElem?_eq_getElem hi)
  refine (hR.iff _ _ _ _).2 ⟨?_, hS⟩
  have hi2 : (i + 1) * sz ≤ n * sz := Nat.mul_le_mul_right _ (by omega)
  rw [Nat.add_mul] at hi2
  have hle2 := hR.len xs[i]
  apply List.ext_getElem?
  intro j
  by_cases hj : j < sz
  · rw [List.getElem?_take_of_lt hj, List.getElem?_drop, List.getElem?_take_of_lt (by omega), Array.getElem?_toList]
    have h5 : (enc xs[i])[j]? = some (enc xs[i])[j] := List.getElem?_eq_getElem (by omega)
    rw [h5]
    exact he j _ h5
  · rw [List.getElem?_eq_none (by simp; omega), List.getElem?_eq_none (by omega)]
theorem Acc.flatAt (hR : Flat R enc S sz) {g n cap : Nat} {cur : Array Value} (h : Acc R sz T F B w (.slice (some ⟨g, 0, none⟩) n cap) xs) (hg : w.heap[g]? = some (.cells cur T (0, 0))) {i : Nat} {x : α} (hx : xs[i]? = some x) :
    S x ∧ ∀ (j : Nat) (u : Value), (enc x)[j]? = some u → cur[i * sz + j]? = some u := by
  obtain ⟨hi, hxe⟩ := List.getElem?_eq_some_iff.1 hx
  obtain ⟨a, c, hv, hs⟩ := h.sl hR.ok hR.pos (G := fun _ => True) (fun _ _ => trivial) (fun _ _ => trivial)
  cases hv
  obtain ⟨b, off, ha, -, hc⟩ := hs.2 (by omega)
  cases ha
  obtain ⟨vs, h1, h2, h3⟩ := hc i hi
  rw [hxe] at h3
  obtain ⟨rfl, hS⟩ := (hR.iff _ _ _ _).1 h3
  refine ⟨hS, fun j u hj => ?_⟩
  obtain ⟨hj1, hj2⟩ := List.getElem?_eq_some_iff.1 hj
  have h4 := h2 j hj1
  rw [hj2, Nat.zero_add] at h4
  simpa [World.cell?, hg] using h4

theorem heap_setCellsF {b : Nat} {t : TypeId} {fz : Nat × Nat} : ∀ (vs : List Value) (w : World) (o : Nat) (cur : Array Value), w.heap[b]? = some (.cells cur t fz) → o + vs.length ≤ cur.size →
    ∃ cur', (w.setCells b o vs).heap[b]? = some (.cells cur' t fz) ∧ cur'.size = cur.size ∧ (∀ i, i < o → cur'[i]? = cur[i]?) ∧ (∀ i, o + vs.length ≤ i → cur'[i]? = cur[i]?) ∧ (∀ j u, vs[j]? = some u → cur'[o + j]? = some u)
  | [], _, _, cur, h, _ => ⟨cur, h, rfl, fun _ _ => rfl, fun _ _ => rfl, fun _ _ h => by simp at h⟩
  | v :: r, w, o, cur, h, hsz => by
    simp only [List.length_cons] at hsz
    have h1 : (w.setCell ⟨b, o, none⟩ v).heap[b]? = some (.cells (cur.setIfInBounds o v) t fz) := by
      simp [World.setCell, Array.getElem?_modify, h]
    obtain ⟨cur', h2, h3, h4, h5, h6⟩ := heap_setCellsF r _ (o + 1) _ h1 (by simp; omega)
    refine ⟨cur', h2, by simpa using h3, fun i hi => ?_, fun i hi => ?_, fun j u hj => ?_⟩
    · rw [h4 i (by omega), Array.getElem?_setIfInBounds_ne (by omega)]
    · simp only [List.length_cons] at hi
      rw [h5 i (by omega), Array.getElem?_setIfInBounds_ne (by omega)]
    · cases j with
      | zero =>
        rw [Nat.add_zero, h4 o (by omega), Array.getElem?_setIfInBounds_self_of_lt (by omega)]
        simpa using hj
      | succ j =>
        have := h6 j u (by simpa using hj)
        rw [show o + (j + 1) = o + 1 + j by omega]
        exact this
theorem kept_setCellsF {F : Nat → Prop} (b : Nat) (hF : ¬ F b) : ∀ (vs : List Value) (w : World) (o : Nat), Kept F w (w.setCells b o vs)
  | [], _, _ => Kept.refl _ _
  | v :: r, w, o => (Kept.setCell w ⟨b, o, none⟩ v hF).trans (kept_setCellsF b hF r _ (o + 1))

/-- An element is written over. -/
theorem Acc.setFlat (hR : Flat R enc S sz) {g n cap : Nat} (h : Acc R sz T F B w (.slice (some ⟨g, 0, none⟩) n cap) xs) (i : Nat) (hi : i < n) (y : α) (hy : S y) :
    Acc R sz T F B (w.setCells g (i * sz) (enc y)) (.slice (some ⟨g, 0, none⟩) n cap) (xs.set i y) := by
  obtain ⟨a, c, hv, -⟩ := h.form
  cases hv
  obtain ⟨g', cap', cur, hv', hb, hg, h1, h2, h3⟩ := h.flatRow (by omega)
  cases hv'
  have hle : (i + 1) * sz ≤ cap * sz := Nat.mul_le_mul_right _ (by omega)
  rw [Nat.add_mul] at hle
  have hyl := hR.len y
  obtain ⟨cur', e1, e2, e3, e4, e5⟩ := heap_setCellsF (enc y) w (i * sz) cur hg (by omega)
  refine Acc.flatCells hR e1 hb (by simp) h1 h2 (by omega) (fun j x hx => ?_)
  by_cases hj : j = i
  · subst hj
    rw [List.getElem?_set_self hi] at hx
    injection hx with hx
    subst hx
    exact ⟨hy, e5⟩
  · rw [List.getElem?_set_ne (fun e => hj e.symm)] at hx
    obtain ⟨hS, hx2⟩ := h.flatAt hR hg hx
    refine ⟨hS, fun t u ht => ?_⟩
    have htl : t < sz := by have := (List.getElem?_eq_some_iff.1 ht).1; have := hR.len x; omega
    have h7 := hx2 t u ht
    rcases Nat.lt_or_gt_of_ne hj with h8 | h8
    · have h9 : (j + 1) * sz ≤ i * sz := Nat.mul_le_mul_right _ h8
      rw [Nat.add_mul] at h9
      rw [e3 _ (by omega)]; exact h7
    · have h9 : (i + 1) * sz ≤ j * sz := Nat.mul_le_mul_right _ h8
      rw [Nat.add_mul] at h9
      rw [e4 _ (by omega)]; exact h7
/-- The end is cleared: the elements before it are as they were. -/
theorem Acc.cutFlat (hR : Flat R enc S sz) {g n cap : Nat} (h : Acc R sz T F B w (.slice (some ⟨g, 0, none⟩) n cap) xs) (i : Nat) (hi : i < n) (vs : List Value) (hvs : vs.length = (n - i) * sz) :
    Acc R sz T F B (w.setCells g (i * sz) vs) (.slice (some ⟨g, 0, none⟩) i cap) (xs.take i) := by
  obtain ⟨a, c, hv, -⟩ := h.form
  cases hv
  obtain ⟨g', cap', cur, hv', hb, hg, h1, h2, h3⟩ := h.flatRow (by omega)
  cases hv'
  have hle : i * sz + (xs.length - i) * sz ≤ cap * sz := by rw [← Nat.add_mul]; exact Nat.mul_le_mul_right _ (by omega)
  obtain ⟨cur', e1, e2, e3, e4, e5⟩ := heap_setCellsF vs w (i * sz) cur hg (by omega)
  refine Acc.flatCells hR e1 hb (by simp; omega) (by omega) h2 (by omega) (fun j x hx => ?_)
  have hji : j < i := by
    obtain ⟨hh, -⟩ := List.getElem?_eq_some_iff.1 hx
    simp at hh; omega
  rw [List.getElem?_take_of_lt hji] at hx
  obtain ⟨hS, hx2⟩ := h.flatAt hR hg hx
  refine ⟨hS, fun t u ht => ?_⟩
  have htl : t < sz := by have := (List.getElem?_eq_some_iff.1 ht).1; have := hR.len x; omega
  have h9 : (j + 1) * sz ≤ i * sz := Nat.mul_le_mul_right _ hji
  rw [Nat.add_mul] at h9
  rw [e3 _ (by omega)]; exact hx2 t u ht
theorem run_clear_flat {P : Program} (w : World) (t e ty : TypeId) (z : Value) (ht : P.underlying t = some (.slice e)) (hv : ∀ w, (zeroValue e).run P w = .ok z w) (b o n c : Nat) (hn : 0 < n)
    (h1 : ∀ u ∈ (Builtin.zeroCells z.cells n).toList, u.oneCell' = true)
    (hc : ∀ j, j < (Builtin.zeroCells z.cells n).size → (w.cell? ⟨b, o + j, none⟩).isSome = true) (hf : ∀ j, j < (Builtin.zeroCells z.cells n).size → w.frozen? ⟨b, o + j, none⟩ = false) :
    (Builtin.clear_ #[t] ty #[.slice (some ⟨b, o, none⟩) n c]).run P w = .ok (.tuple #[]) (w.setCells b o (Builtin.zeroCells z.cells n).toList) := by
  have hst := run_storeCells_cells (P := P) b o (Builtin.zeroCells z.cells n).toList 0 w (by simpa using hc) (by simpa using hf) (by intro v hv'; exact h1 v hv')
  simp only [Nat.add_zero] at hst
  obtain ⟨m, rfl⟩ : ∃ m, n = m + 1 := ⟨n - 1, by omega⟩
  simp [Builtin.clear_, run_underlying ht, hv, hst]
end

/-- Function value g with what it has captured answers p at each of ys, as long as the blocks that G names are as in w; it leaves what was there as it was. -/
def AnswersG {α : Type} (P : Program) (g : FuncId) (caps : Array Value) (G : Nat → Prop) (w : World) (val : α → Value) (p : α → Bool) (ys : List α) : Prop :=
  ∀ y ∈ ys, ∀ wx, Kept G w wx → Calls P g (#[val y] ++ caps) wx fun e w' => e = .returned (.bool (p y)) ∧ All wx w'
/-- What DeleteFunc leaves of a row of the call's own. -/
def DelPost {α : Type} (R : Rel α) (sz : Nat) (T : TypeId) (B : Nat) (v : Value) (ys : List α) (w : World) (e : Ending) (w' : World) : Prop :=
  ∃ p c, e = .returned (.slice p ys.length c) ∧ Acc R sz T (fun _ => False) B w' (.slice p ys.length c) ys ∧ Kept (fun k => v.ownBlock ≠ some k) w w' ∧ (Value.slice p ys.length c).ownBlock = v.ownBlock

section
variable {α : Type}
def findA (p : α → Bool) : Nat → List α → Int
  | _, [] => -1
  | k, s :: l => if p s = true then k else findA p (k + 1) l
theorem findA_neg {p : α → Bool} : ∀ {ss : List α} {k : Nat}, ss.any p = false → findA p k ss = -1
  | [], _, _ => rfl
  | s :: l, k, h => by
    simp only [List.any_cons, Bool.or_eq_false_iff] at h
    rw [findA, if_neg (by simp [h.1])]
    exact findA_neg h.2
theorem findA_append {p : α → Bool} : ∀ {a b : List α} {k : Nat}, a.any p = false → findA p k (a ++ b) = findA p (k + a.length) b
  | [], b, k, _ => by simp
  | s :: l, b, k, h => by
    simp only [List.any_cons, Bool.or_eq_false_iff] at h
    rw [List.cons_append, findA, if_neg (by simp [h.1]), findA_append h.2]
    simp only [List.length_cons]
    congr 1
    omega
theorem findA_hit {p : α → Bool} : ∀ {ss : List α} {k : Nat}, ss.any p = true → ∃ i y, findA p k ss = ((k + i : Nat) : Int) ∧ ss[i]? = some y ∧ p y = true ∧ (ss.take i).any p = false
  | s :: l, k, h => by
    rw [findA]
    by_cases e : p s = true
    · exact ⟨0, s, by rw [if_pos e]; rfl, rfl, e, rfl⟩
    · simp only [List.any_cons, Bool.or_eq_true] at h
      obtain ⟨i, y, h1, h2, h3, h4⟩ := findA_hit (k := k + 1) (h.resolve_left e)
      refine ⟨i + 1, y, by rw [if_neg e, h1]; congr 1; omega, h2, h3, ?_⟩
      rw [List.take_succ_cons, List.any_cons, h4]
      simpa using e
theorem findA_at {p : α → Bool} {ss : List α} {k : Nat} {y : α} (hn : (ss.take k).any p = false) (hy : ss[k]? = some y) (hp : p y = true) : findA p 0 ss = (k : Int) := by
  obtain ⟨hk, rfl⟩ := List.getElem?_eq_some_iff.1 hy
  have e : ss = ss.take k ++ ss[k] :: ss.drop (k + 1) := by rw [← List.drop_eq_getElem_cons hk, List.take_append_drop]
  have hl : (ss.take k).length = k := by simp; omega
  rw [show findA p 0 ss = findA p 0 (ss.take k ++ ss[k] :: ss.drop (k + 1)) from congrArg _ e, findA_append hn, hl, findA, if_pos hp]
  simp
theorem anyA_next {p : α → Bool} {ss : List α} {k : Nat} {y : α} (hn : (ss.take k).any p = false) (hy : ss[k]? = some y) (hp : p y = false) : (ss.take (k + 1)).any p = false := by
  rw [List.take_add_one, hy, List.any_append, hn]
  simp [hp]
theorem findA_end {p : α → Bool} {ss : List α} {k : Nat} (hn : (ss.take k).any p = false) (hk : ss.length ≤ k) : findA p 0 ss = -1 := findA_neg (by rw [List.take_of_length_le hk] at hn; exact hn)
/-- What a filter leaves. -/
abbrev keptA (p : α → Bool) (xs : List α) : List α := xs.filter fun x => !p x
theorem keptA_none {p : α → Bool} {xs : List α} (h : xs.any p = false) : keptA p xs = xs := by
  rw [keptA, List.filter_eq_self]
  intro a ha
  rw [List.any_eq_false] at h
  simpa using h a ha
theorem keptA_len (p : α → Bool) (xs : List α) : (keptA p xs).length ≤ xs.length := List.length_filter_le _ _
/-- DeleteFunc at work: what stood before place j is sifted to the front i of qs; from j on all is as it was. -/
structure Sift (p : α → Bool) (xs qs : List α) (i j : Nat) : Prop where
  len : qs.length = xs.length
  pre : qs.take i = keptA p (xs.take j)
  il : (keptA p (xs.take j)).length = i
  rest : ∀ t, j ≤ t → qs[t]? = xs[t]?
  lt : i < j
theorem Sift.start {p : α → Bool} {xs : List α} {i : Nat} {y : α} (hy : xs[i]? = some y) (hp : p y = true) (hn : (xs.take i).any p = false) : Sift p xs xs i (i + 1) := by
  have hi := (List.getElem?_eq_some_iff.1 hy).1
  have e : keptA p (xs.take (i + 1)) = xs.take i := by
    rw [List.take_add_one, hy, keptA, List.filter_append]
    have := keptA_none hn
    rw [keptA] at this
    rw [this]
    simp [hp]
  exact ⟨rfl, e.symm, by rw [e]; simp; omega, fun _ _ => rfl, by omega⟩
theorem Sift.drop {p : α → Bool} {xs qs : List α} {i j : Nat} {y : α} (h : Sift p xs qs i j) (hy : xs[j]? = some y) (hp : p y = true) : Sift p xs qs i (j + 1) := by
  have e : keptA p (xs.take (j + 1)) = keptA p (xs.take j) := by
    rw [List.take_add_one, hy, keptA, List.filter_append]
    simp [hp]
  exact ⟨h.len, by rw [e]; exact h.pre, by rw [e]; exact h.il, fun t ht => h.rest t (by omega), by have := h.lt; omega⟩
theorem Sift.keep {p : α → Bool} {xs qs : List α} {i j : Nat} {y : α} (h : Sift p xs qs i j) (hy : xs[j]? = some y) (hp : p y = false) : Sift p xs (qs.set i y) (i + 1) (j + 1) := by
  have hj := (List.getElem?_eq_some_iff.1 hy).1
  have hlt := h.lt
  have hl := h.len
  have e : keptA p (xs.take (j + 1)) = keptA p (xs.take j) ++ [y] := by
    rw [List.take_add_one, hy, keptA, List.filter_append]
    simp [hp]
  refine ⟨by simp [hl], ?_, by rw [e]; simp [h.il], fun t ht => ?_, by omega⟩
  · rw [e, ← h.pre, List.take_add_one, List.getElem?_set_self (by omega), List.take_set_of_le (Nat.le_refl _)]
    rfl
  · rw [List.getElem?_set_ne (by omega)]
    exact h.rest t (by omega)
theorem Sift.done {p : α → Bool} {xs qs : List α} {i j : Nat} (h : Sift p xs qs i j) (hj : xs.length ≤ j) : qs.take i = keptA p xs := by
  rw [h.pre, List.take_of_length_le hj]
end

theorem flatStr : Flat RStr (fun s : ByteArray => [.string s]) (fun s => s.size ≤ 1000000) 1 :=
  ⟨fun _ _ _ _ => Iff.rfl, fun _ => rfl, by decide, fun x u hu => by simp at hu; rw [hu]; rfl⟩
end Go.Proofs.YtgobnlgmbplggaaGreatDoor
