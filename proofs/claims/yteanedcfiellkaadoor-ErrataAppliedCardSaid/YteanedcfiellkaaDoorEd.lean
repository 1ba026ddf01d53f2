/- Clone: a slice is copied into a row of the call's own. -/
import Derived.Test.YteanedcfiellkaaDoorFc
namespace Go.Proofs.YteanedcfiellkaaDoor
open Go.RowKit

/-- The cells of a slice, one behind the other. -/
theorem Sl.flat {α : Type} {R : Rel α} {sz : Nat} {F : Nat → Prop} {w : World} {b off len : Nat} {xs : List α} (h : Sl R sz F w (some ⟨b, off, none⟩) len xs) :
    ∃ news : List Value, news.length = len * sz ∧ (∀ j u, news[j]? = some u → w.cell? ⟨b, off + j, none⟩ = some u) ∧ ∀ (i : Nat) (hi : i < xs.length), R F w ((news.drop (i * sz)).take sz) xs[i] := by
  have hl := h.1
  have key : ∀ k, k ≤ len → ∃ news : List Value, news.length = k * sz ∧ (∀ j u, news[j]? = some u → w.cell? ⟨b, off + j, none⟩ = some u) ∧ ∀ (i : Nat) (hi : i < xs.length), i < k → R F w ((news.drop (i * sz)).take sz) xs[i] := by
    intro k
    induction k with
    | zero => exact fun _ => ⟨[], by simp, by simp, fun i _ hk => absurd hk (by omega)⟩
    | succ k ih =>
      intro hk
      obtain ⟨news, h1, h2, h3⟩ := ih (by omega)
      obtain ⟨b', off', ha, _, hc⟩ := h.2 (by omega)
      cases ha
      obtain ⟨vs, hv1, hv2, hv3⟩ := hc k (by omega)
      refine ⟨news ++ vs, by rw [List.length_append, h1, hv1, Nat.add_mul]; omega, fun j u hj => ?_, fun i hi hik => ?_⟩
      · by_cases hjl : j < news.length
        · rw [List.getElem?_append_left hjl] at hj
          exact h2 j u hj
        · rw [List.getElem?_append_right (by omega)] at hj
          obtain ⟨hjv, rfl⟩ := List.getElem?_eq_some_iff.1 hj
          have := hv2 (j - news.length) hjv
          rw [show off + j = off + k * sz + (j - news.length) by omega]
          exact this
      · by_cases he : i = k
        · subst he
          have : ((news ++ vs).drop (i * sz)).take sz = vs := by
            rw [← h1, List.drop_left, List.take_of_length_le (by omega)]
          rw [this]; exact hv3
        · have hlt : i < k := by omega
          have hm : (i + 1) * sz ≤ k * sz := Nat.mul_le_mul_right _ hlt
          rw [Nat.add_mul] at hm
          have : ((news ++ vs).drop (i * sz)).take sz = (news.drop (i * sz)).take sz := by
            rw [List.drop_append_of_le_length (by omega), List.take_append_of_le_length (by simp; omega)]
          rw [this]; exact h3 i hi hlt
  obtain ⟨news, h1, h2, h3⟩ := key len (Nat.le_refl _)
  exact ⟨news, h1, h2, fun i hi => h3 i hi (by omega)⟩

/-- An empty row, written out. -/
theorem ownsRow_empty (w : World) (B : Nat) (T : TypeId) (sz : Nat) (hB : B ≤ w.heap.size) : (w.alloc (.cells #[] T)).ownsRow B T sz (.slice (some ⟨w.heap.size, 0, none⟩) 0 0) 0 [] :=
  ⟨by simp, .inr ⟨w.heap.size, 0, #[], rfl, hB, heap_at _ _ _ rfl, Nat.le_refl _, by unfold maxLen; omega, by simp, by simp⟩⟩

/-- append(S{}, s...): what is there reads as s. -/
theorem wp_clone {α : Type} {R : Rel α} (ok : R.Ok) {P : Program} (w : World) {ops : Array Oper} {rest : List Oper} {o : Oper} {a : Act} {Q : Exit → Act → World → Prop} (hgd : o.guard = none) (s x : Operand) (t : TypeId)
    (ho : o.op = .call { callee := .builtin .append, args := #[s, x], argTypes := #[t, t] })
    (e : TypeId) (z : Value) (size bytes : Nat) (ht : P.underlying t = some (.slice e)) (hi : (P.info? e).map (fun i => (i.zero, i.size, i.bytes)) = some (some z, size, bytes))
    (hzs : z.cells.size = size) (hsz : 0 < size) (F : Nat → Prop) (w0 : World) (hw0 : w = w0.alloc (.cells #[] e))
    (hs : a.eval s = .slice (some ⟨w0.heap.size, 0, none⟩) 0 0)
    (ad : Addr) (len c : Nat) (xs : List α) (hx : a.eval x = .slice (some ad) len c) (hsl : Sl R size F w (some ad) len xs) (hF : ∀ k, F k → k < w0.heap.size) (h1 : ∀ vs y, R F w vs y → ∀ u ∈ vs, u.oneCell' = true)
    (hb1 : len ≤ 1000000) (hb2 : bytes ≤ 100000)
    (h : ∀ p' c' w', Acc R size e F w0.heap.size w' (.slice p' xs.length c') xs → All w0 w' → wpList P ops Q rest (a.put o.dst (.slice p' xs.length c')) w') :
    wpList P ops Q (o :: rest) a w := by
  subst hw0
  obtain ⟨i0, hi, hz0, hz1, hz2⟩ := info_parts hi
  have hl := hsl.1
  have hflat : ∃ news : List Value, news.length = len * size ∧ (∀ j u, news[j]? = some u → (w0.alloc (.cells #[] e)).cell? (ad.add j) = some u) ∧ ∀ (i : Nat) (hi : i < xs.length), R F (w0.alloc (.cells #[] e)) ((news.drop (i * size)).take size) xs[i] := by
    rcases Nat.eq_zero_or_pos len with h0 | h0
    · exact ⟨[], by simp [h0], by simp, fun i hi => absurd hi (by omega)⟩
    · obtain ⟨b, off, ha, -⟩ := hsl.2 h0
      cases ha
      obtain ⟨news, hn1, hn2, hn3⟩ := hsl.flat
      refine ⟨news, hn1, fun j u hj => ?_, hn3⟩
      have hadd : (⟨b, off, none⟩ : Addr).add j = ⟨b, off + j, none⟩ := by
        unfold Addr.add; split
        · rename_i h0; rw [h0, Nat.add_zero]
        · rfl
      rw [hadd]; exact hn2 j u hj
  obtain ⟨news, hn1, hn2, hn3⟩ := hflat
  refine wpList_append_own_at _ hgd s x t ho w0.heap.size e i0 z size bytes ht hi hz0 hz1 hz2 hzs hsz _ 0 [] hs (ownsRow_empty w0 _ _ _ (Nat.le_refl _)) ad len c news hx hn1 hn2 (fun u hu => ?_) (by unfold maxLen; omega) ?_ (by simp) ?_
  · obtain ⟨j, hj, rfl⟩ := List.getElem_of_mem hu
    have hq : j / size < xs.length := by rw [hl]; exact Nat.div_lt_of_lt_mul (by rw [Nat.mul_comm]; omega)
    refine h1 _ _ (hn3 (j / size) hq) _ ?_
    have hj2 : j = j / size * size + j % size := by rw [Nat.mul_comm]; exact (Nat.div_add_mod j size).symm
    have hm : j % size < size := Nat.mod_lt _ hsz
    rw [List.mem_iff_getElem?]
    refine ⟨j % size, ?_⟩
    rw [List.getElem?_take, if_pos hm, List.getElem?_drop, ← hj2]
    exact List.getElem?_eq_getElem hj
  · calc (0 + len) * bytes ≤ 1000000000 * 100000 := Nat.mul_le_mul (by omega) hb2
      _ ≤ 140737488355328 := by decide
  · intro v' w' ho' hg _ hat
    simp only [Nat.zero_add, List.nil_append] at ho'
    have hown0 : ∀ k, (Value.slice (some ⟨w0.heap.size, 0, none⟩) 0 0).ownBlock = some k → w0.heap.size = k := fun k hk => by simpa [Value.ownBlock] using hk
    have hkk : Kept (fun k => k < w0.heap.size) (w0.alloc (.cells #[] e)) w' := (Kept.refl _ _).grown hg (fun k hk => Or.inr (by have := hown0 k hk; omega))
    have hacc : Acc R size e F w0.heap.size w' v' xs := by
      refine ⟨news, by rw [hl]; exact ho', fun i hi' => ?_⟩
      have h2 := ok.keep (hkk.mono fun k hk => hF k hk) (hn3 i hi')
      refine ok.mono (fun k hk => ⟨hk, fun e => ?_⟩) h2
      have := (ho'.lt k e).1
      have := hF k hk
      omega
    obtain ⟨p', c', rfl, _⟩ := hacc.form
    exact h p' c' w' hacc (((Kept.alloc _ _ _)).trans2 hkk fun i hi _ => hi)
end Go.Proofs.YteanedcfiellkaaDoor
