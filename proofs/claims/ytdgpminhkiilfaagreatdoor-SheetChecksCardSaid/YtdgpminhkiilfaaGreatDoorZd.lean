/- Slices that a call gathers by append: what they read as. No program in sight. -/
import Derived.Test.YtdgpminhkiilfaaGreatDoorZa
import Derived.Deep.RegionHeld3
import Derived.Deep.RegionLaw
import Derived.BigRegion
import Derived.Deep.DeepCutAuto
import Derived.Deep.AppendLies
namespace Go.Proofs.YtdgpminhkiilfaaGreatDoor
open Go.RowKit

/-- v is a slice of the call's own (its row lies in a block from B on), and reads as xs; its elements read through blocks that F names and that are not that row. -/
def Acc {α : Type} (R : Rel α) (sz : Nat) (T : TypeId) (F : Nat → Prop) (B : Nat) (w : World) (v : Value) (xs : List α) : Prop :=
  ∃ cells : List Value, w.ownsRow B T sz v xs.length cells ∧ ∀ (i : Nat) (h : i < xs.length), R (fun k => F k ∧ v.ownBlock ≠ some k) w ((cells.drop (i * sz)).take sz) xs[i]

section
variable {α : Type} {R : Rel α} {sz : Nat} {T : TypeId} {F : Nat → Prop} {B : Nat} {w w' : World} {v : Value} {xs : List α}

theorem Acc.nil (R : Rel α) (sz : Nat) (T : TypeId) (F : Nat → Prop) (B : Nat) (w : World) : Acc R sz T F B w (.slice none 0 0) [] :=
  ⟨[], World.ownsRow_nil w B T sz, fun i h => absurd h (by simp)⟩

theorem Acc.lt (h : Acc R sz T F B w v xs) : ∀ k, v.ownBlock = some k → B ≤ k ∧ k < w.heap.size := by
  obtain ⟨cells, ho, _⟩ := h
  exact ho.lt

theorem ownsRow_kept {G : Nat → Prop} {cells : List Value} {n : Nat} (h : w.ownsRow B T sz v n cells) (hk : Kept G w w') (hg : ∀ k, v.ownBlock = some k → G k) : w'.ownsRow B T sz v n cells := by
  refine ⟨h.1, ?_⟩
  rcases h.2 with hn | ⟨g, cap, cur, rfl, hb, hgg, rest⟩
  · exact .inl hn
  · exact .inr ⟨g, cap, cur, rfl, hb, hk.heap hgg (hg g rfl), rest⟩

theorem Acc.keep (ok : R.Ok) {G : Nat → Prop} (h : Acc R sz T F B w v xs) (hk : Kept G w w') (hF : ∀ k, F k → G k) (hg : ∀ k, v.ownBlock = some k → G k) : Acc R sz T F B w' v xs := by
  obtain ⟨cells, ho, he⟩ := h
  refine ⟨cells, ownsRow_kept ho hk hg, fun i hi => ?_⟩
  exact ok.keep (hk.mono fun k hk => hF k hk.1) (he i hi)
theorem Acc.keepAll (ok : R.Ok) (h : Acc R sz T F B w v xs) (hk : All w w') : Acc R sz T F B w' v xs := h.keep ok hk (fun _ _ => trivial) (fun _ _ => trivial)

theorem Acc.mono (ok : R.Ok) {G : Nat → Prop} (h : Acc R sz T F B w v xs) (hF : ∀ k, F k → G k) : Acc R sz T G B w v xs := by
  obtain ⟨cells, ho, he⟩ := h
  exact ⟨cells, ho, fun i hi => ok.mono (fun k hk => ⟨hF k hk.1, hk.2⟩) (he i hi)⟩

/-- It is a slice, and reads as a slice does. -/
theorem Acc.sl (ok : R.Ok) (hsz : 0 < sz) {G : Nat → Prop} (h : Acc R sz T F B w v xs) (hF : ∀ k, F k → G k) (hg : ∀ k, v.ownBlock = some k → G k) :
    ∃ a cap, v = .slice a xs.length cap ∧ Sl R sz G w a xs.length xs := by
  obtain ⟨cells, ho, he⟩ := h
  rcases ho.2 with ⟨rfl, hn⟩ | ⟨g, cap, cur, rfl, hb, hgg, hnc, hcm, hcs, htake⟩
  · have : xs = [] := List.eq_nil_of_length_eq_zero hn
    subst this
    exact ⟨none, 0, rfl, Sl.nil _ _ _ _ _⟩
  · refine ⟨_, cap, rfl, rfl, fun _ => ⟨g, 0, rfl, hg g rfl, fun i hi => ⟨(cells.drop (i * sz)).take sz, ?_, ?_, ?_⟩⟩⟩
    · have h1 := ho.1
      have h2 : (i + 1) * sz ≤ xs.length * sz := Nat.mul_le_mul_right _ hi
      rw [Nat.add_mul] at h2
      simp only [List.length_take, List.length_drop]
      omega
    · intro j hj
      simp only [List.length_take, List.length_drop] at hj
      have h3 : cells[i * sz + j]? = some ((cells.drop (i * sz)).take sz)[j] := by
        rw [List.getElem_take, List.getElem_drop]
        exact List.getElem?_eq_getElem _
      have h4 := ho.cells (g := g) rfl (i * sz + j) _ h3
      have hadd : (⟨g, 0, none⟩ : Addr).add (i * sz + j) = ⟨g, 0 + i * sz + j, none⟩ := by
        unfold Addr.add; split
        · rename_i h0; have h5 : 0 + i * sz + j = 0 := by omega
          rw [h5]
        · simp
      rw [← hadd]; exact h4
    · exact ok.mono (fun k hk => hF k hk.1) (he i hi)

/-- One element more. -/
theorem Acc.push (ok : R.Ok) {v' : Value} {cells vs : List Value} {y : α} (hsz : vs.length = sz)
    (ho : w.ownsRow B T sz v xs.length cells) (he : ∀ (i : Nat) (h : i < xs.length), R (fun k => F k ∧ v.ownBlock ≠ some k) w ((cells.drop (i * sz)).take sz) xs[i])
    (hy : R (fun k => F k ∧ v.ownBlock ≠ some k) w vs y)
    (ho' : w'.ownsRow B T sz v' (xs.length + 1) (cells ++ vs)) (hg : w.grownBy w' v.ownBlock) (hat : v'.ownBlock = v.ownBlock ∨ v'.ownBlock = some w.heap.size) :
    Acc R sz T F B w' v' (xs ++ [y]) := by
  have hk : Kept (fun k => F k ∧ v.ownBlock ≠ some k) w w' :=
    ⟨hg.os, hg.tape, hg.output, hg.size, fun k hk hf => hg.block k hk (fun e => hf.2 e.symm)⟩
  have turn : ∀ {us : List Value} {x : α}, R (fun k => F k ∧ v.ownBlock ≠ some k) w us x → R (fun k => F k ∧ v'.ownBlock ≠ some k) w' us x := by
    intro us x h
    have h1 := ok.live h
    have h2 : R (fun k => (F k ∧ v.ownBlock ≠ some k) ∧ k < w.heap.size) w' us x := ok.keep (hk.mono fun k hk => hk.1) h1
    refine ok.mono (fun k hk => ⟨hk.1.1, ?_⟩) h2
    rcases hat with e | e
    · rw [e]; exact hk.1.2
    · rw [e]; intro e2; cases e2; exact absurd hk.2 (by omega)
  have hcl := ho.1
  refine ⟨cells ++ vs, by simpa using ho', fun i hi => ?_⟩
  simp only [List.length_append, List.length_cons, List.length_nil] at hi
  by_cases hlt : i < xs.length
  · have h2 : (i + 1) * sz ≤ xs.length * sz := Nat.mul_le_mul_right _ hlt
    rw [Nat.add_mul] at h2
    have e1 : ((cells ++ vs).drop (i * sz)).take sz = (cells.drop (i * sz)).take sz := by
      rw [List.drop_append_of_le_length (by omega), List.take_append_of_le_length (by simp; omega)]
    rw [e1, List.getElem_append_left hlt]
    exact turn (he i hlt)
  · have e0 : i = xs.length := by omega
    subst e0
    have e1 : ((cells ++ vs).drop (xs.length * sz)).take sz = vs := by
      rw [← hcl, List.drop_left, List.take_of_length_le (by omega)]
    rw [e1]
    simpa using turn hy
end

/-- The row of a slice of numbers of the call's own, once it has an element. -/
theorem Acc.ints {F : Nat → Prop} {B : Nat} {w : World} {v : Value} {T : TypeId} {zs : List Int} (h : Acc RInt 1 T F B w v zs) (hl : 0 < zs.length) :
    ∃ g cap, v = .slice (some ⟨g, 0, none⟩) zs.length cap ∧ B ≤ g ∧ (∀ i, i < zs.length → w.cell? ⟨g, i, none⟩ = some (.int .i64 (zs.getD i 0))) ∧ (∀ i, w.frozen? ⟨g, i, none⟩ = false) := by
  obtain ⟨cells, ho, he⟩ := h
  rcases ho.2 with ⟨rfl, hn⟩ | ⟨g, cap, cur, rfl, hb, hgg, hnc, hcm, hcs, htake⟩
  · omega
  · refine ⟨g, cap, rfl, hb, fun i hi => ?_, fun i => ?_⟩
    · have h1 : (cells.drop (i * 1)).take 1 = [Value.int .i64 zs[i]] := he i hi
      have h2 : cells[i]? = some (Value.int .i64 zs[i]) := by
        have := congrArg (fun l => l[0]?) h1
        simpa [List.getElem?_take, List.getElem?_drop] using this
      have h3 := ho.cells (g := g) rfl i _ h2
      have hadd : (⟨g, 0, none⟩ : Addr).add i = ⟨g, i, none⟩ := by
        unfold Addr.add; split
        · rename_i h0; rw [h0]
        · simp
      rw [hadd] at h3
      rw [h3]; simp [List.getD_eq_getElem?_getD, List.getElem?_eq_getElem hi]
    · simp only [World.frozen?, hgg]; simp
theorem Acc.setInt {F : Nat → Prop} {B : Nat} {w : World} {T : TypeId} {zs : List Int} {g cap n : Nat} (h : Acc RInt 1 T F B w (.slice (some ⟨g, 0, none⟩) n cap) zs) (i : Nat) (z : Int) :
    Acc RInt 1 T F B (w.setCell ⟨g, i, none⟩ (.int .i64 z)) (.slice (some ⟨g, 0, none⟩) n cap) (zs.set i z) := by
  obtain ⟨cells, ho, he⟩ := h
  have hcl := ho.1
  have hz : cells = zs.map (Value.int .i64) := by
    apply List.ext_getElem?
    intro j
    by_cases hj : j < zs.length
    · have h1 : (cells.drop (j * 1)).take 1 = [Value.int .i64 zs[j]] := he j hj
      have := congrArg (fun l => l[0]?) h1
      simpa [List.getElem?_take, List.getElem?_drop, List.getElem?_eq_getElem hj] using this
    · rw [List.getElem?_eq_none (by omega), List.getElem?_eq_none (by simp; omega)]
  refine ⟨(zs.set i z).map (Value.int .i64), ?_, fun j hj => ?_⟩
  · refine ⟨by simp, ?_⟩
    rcases ho.2 with ⟨h0, hn⟩ | ⟨g', cap', cur, hv, hb, hgg, hnc, hcm, hcs, htake⟩
    · cases h0
    · cases hv
      have hh : (w.setCell ⟨g, i, none⟩ (.int .i64 z)).heap[g]? = some (.cells (cur.setIfInBounds i (.int .i64 z)) T (0, 0)) := by
        simp [World.setCell, Array.getElem?_modify, hgg]
      refine .inr ⟨g, cap, _, by simp, hb, hh, by simpa using hnc, hcm, by simpa using hcs, ?_⟩
      rw [hz] at htake
      simp only [List.length_set, Nat.mul_one] at *
      rw [Array.toList_setIfInBounds, List.take_set, htake, List.map_set]
  · simp only [List.length_set] at hj
    show _ = _
    simp only [Nat.mul_one]
    have hj' : j < ((zs.set i z).map (Value.int .i64)).length := by simpa using hj
    rw [List.drop_eq_getElem_cons hj', List.take_succ_cons, List.take_zero, List.getElem_map]

theorem Acc.form {α : Type} {R : Rel α} {sz : Nat} {T : TypeId} {F : Nat → Prop} {B : Nat} {w : World} {v : Value} {xs : List α} (h : Acc R sz T F B w v xs) : ∃ a cap, v = .slice a xs.length cap ∧ xs.length ≤ cap := by
  obtain ⟨cells, ho, he⟩ := h
  rcases ho.2 with ⟨hv, hn⟩ | ⟨g, cap, cur, hv, hg, _, hle, _⟩
  · exact ⟨none, 0, by rw [hv, hn], by omega⟩
  · exact ⟨_, cap, hv, hle⟩
theorem Acc.strAny {T : TypeId} {F : Nat → Prop} (G : Nat → Prop) {B : Nat} {w : World} {v : Value} {ss : List ByteArray} (h : Acc RStr 1 T F B w v ss) : Acc RStr 1 T G B w v ss := h
theorem Acc.intAny {T : TypeId} {F : Nat → Prop} (G : Nat → Prop) {B : Nat} {w : World} {v : Value} {ss : List Int} (h : Acc RInt 1 T F B w v ss) : Acc RInt 1 T G B w v ss := h

/-- append of one element that was written out just before. -/
theorem wp_append1 {α : Type} {R : Rel α} (ok : R.Ok) {P : Program} (w : World) {ops : Array Oper} {rest : List Oper} {o : Oper} {a : Act} {Q : Exit → Act → World → Prop} (hgd : o.guard = none) (s x : Operand) (t : TypeId)
    (ho : o.op = .call { callee := .builtin .append, args := #[s, x], argTypes := #[t, t] })
    (B : Nat) (e : TypeId) (z : Value) (size bytes : Nat) (ht : P.underlying t = some (.slice e)) (hi : (P.info? e).map (fun i => (i.zero, i.size, i.bytes)) = some (some z, size, bytes))
    (hzs : z.cells.size = size) (hsz : 0 < size) (F : Nat → Prop)
    (v : Value) (xs : List α) (hs : a.eval s = v) (hacc : Acc R size e F B w v xs)
    (ad : Addr) (c : Nat) (vs : List Value) (hx : a.eval x = .slice (some ad) 1 c) (hl : vs.length = size) (hnews : ∀ j u, vs[j]? = some u → w.cell? (ad.add j) = some u) (h1 : ∀ u ∈ vs, u.oneCell' = true)
    (y : α) (hy : R (fun k => F k ∧ v.ownBlock ≠ some k) w vs y)
    (hb1 : xs.length + 1 ≤ 1000000000) (hb2 : bytes ≤ 100000) (hbase : B ≤ w.heap.size)
    (h : ∀ p' c' w', Acc R size e F B w' (.slice p' (xs.length + 1) c') (xs ++ [y]) → w.grownBy w' v.ownBlock → ((Value.slice p' (xs.length + 1) c').ownBlock = v.ownBlock ∨ (Value.slice p' (xs.length + 1) c').ownBlock = some w.heap.size) → wpList P ops Q rest (a.put o.dst (.slice p' (xs.length + 1) c')) w') :
    wpList P ops Q (o :: rest) a w := by
  obtain ⟨i0, hi, hz0, hz1, hz2⟩ := info_parts hi
  obtain ⟨cells, hown, he⟩ := hacc
  refine wpList_append_own_at w hgd s x t ho B e i0 z size bytes ht hi hz0 hz1 hz2 hzs hsz v xs.length cells hs hown ad 1 c vs hx (by omega) hnews h1 (by unfold maxLen; omega) ?_ hbase ?_
  · calc (xs.length + 1) * bytes ≤ 1000000000 * 100000 := Nat.mul_le_mul hb1 hb2
      _ ≤ 140737488355328 := by decide
  · intro v' w' ho' hg _ hat
    have hp := Acc.push ok hl hown he hy ho' hg hat
    obtain ⟨p', c', rfl, _⟩ := hp.form
    simp only [List.length_append, List.length_cons, List.length_nil, Nat.zero_add] at *
    exact h p' c' w' hp hg hat

/-- The same at a step of a region that draws its order. -/
theorem step_append1 {α : Type} {R : Rel α} (ok : R.Ok) {P : Program} (w : World) {ops : Array Oper} {o : Oper} {a : Act} {K : Act → World → Prop} {Q : Exit → Act → World → Prop} {E : Prop} (hgd : o.guard = none) (s x : Operand) (t : TypeId)
    (ho : o.op = .call { callee := .builtin .append, args := #[s, x], argTypes := #[t, t] })
    (B : Nat) (e : TypeId) (z : Value) (size bytes : Nat) (ht : P.underlying t = some (.slice e)) (hi : (P.info? e).map (fun i => (i.zero, i.size, i.bytes)) = some (some z, size, bytes))
    (hzs : z.cells.size = size) (hsz : 0 < size) (F : Nat → Prop)
    (v : Value) (xs : List α) (hs : a.eval s = v) (hacc : Acc R size e F B w v xs)
    (ad : Addr) (c : Nat) (vs : List Value) (hx : a.eval x = .slice (some ad) 1 c) (hl : vs.length = size) (hnews : ∀ j u, vs[j]? = some u → w.cell? (ad.add j) = some u) (h1 : ∀ u ∈ vs, u.oneCell' = true)
    (y : α) (hy : R (fun k => F k ∧ v.ownBlock ≠ some k) w vs y)
    (hb1 : xs.length + 1 ≤ 1000000000) (hb2 : bytes ≤ 100000) (hbase : B ≤ w.heap.size)
    (h : ∀ p' c' w', Acc R size e F B w' (.slice p' (xs.length + 1) c') (xs ++ [y]) → w.grownBy w' v.ownBlock → ((Value.slice p' (xs.length + 1) c').ownBlock = v.ownBlock ∨ (Value.slice p' (xs.length + 1) c').ownBlock = some w.heap.size) → K (a.put o.dst (.slice p' (xs.length + 1) c')) w') :
    if Region.wanted o (yielded ops a.tmps) = true then Oper.wp P o a w K Q else E := by
  have hw : Region.wanted o (yielded ops a.tmps) = true := by simp [Region.wanted, hgd]
  rw [if_pos hw]
  obtain ⟨i0, hi, hz0, hz1, hz2⟩ := info_parts hi
  obtain ⟨cells, hown, he⟩ := hacc
  have hbytes : (xs.length + 1) * bytes ≤ 140737488355328 := by
    calc (xs.length + 1) * bytes ≤ 1000000000 * 100000 := Nat.mul_le_mul hb1 hb2
      _ ≤ 140737488355328 := by decide
  obtain ⟨v', w', hr, h2, h3, h4, h5⟩ := run_append_own_at (P := P) w B t o.type e i0 z size bytes ht hi hz0 hz1 hz2 hzs hsz v xs.length cells hown ad 1 c vs (by omega) hnews h1 (by unfold maxLen; omega) hbytes hbase
  unfold Oper.wp execOp
  simp only [ho, resolve, invoke, builtin, Sem.run_bind, Sem.run_pure, Result.andThen_ok, List.map_toArray, List.map_cons, List.map_nil, hs, hx, hr]
  have hp := Acc.push ok hl hown he hy h2 h3 h5
  obtain ⟨p', c', rfl, _⟩ := hp.form
  simp only [List.length_append, List.length_cons, List.length_nil, Nat.zero_add] at *
  exact h p' c' w' hp h3 h5

/-- The first k elements of a slice of the call's own. -/
theorem Acc.take {α : Type} {R : Rel α} {sz : Nat} {T : TypeId} {F : Nat → Prop} {B : Nat} {w : World} {p : Option Addr} {n cap : Nat} {xs : List α} (h : Acc R sz T F B w (.slice p n cap) xs) {k : Nat} (hk : k ≤ xs.length) : Acc R sz T F B w (.slice p k cap) (xs.take k) := by
  obtain ⟨cells, ho, he⟩ := h
  have hcl := ho.1
  have hkl : (xs.take k).length = k := by simp; omega
  have hmul : k * sz ≤ xs.length * sz := Nat.mul_le_mul_right _ hk
  refine ⟨cells.take (k * sz), ?_, fun i hi => ?_⟩
  · rw [hkl]
    refine ⟨by simp; omega, ?_⟩
    rcases ho.2 with ⟨h0, hn⟩ | ⟨g, cap', cur, hv, hb, hgg, hnc, hcm, hcs, htake⟩
    · cases h0
      left; constructor
      · congr 1; omega
      · omega
    · cases hv
      refine .inr ⟨g, cap, cur, rfl, hb, hgg, by omega, hcm, hcs, ?_⟩
      rw [← htake, List.take_take, Nat.min_eq_left hmul]
  · rw [hkl] at hi
    have h2 : (i + 1) * sz ≤ k * sz := Nat.mul_le_mul_right _ hi
    rw [Nat.add_mul] at h2
    have e1 : ((cells.take (k * sz)).drop (i * sz)).take sz = (cells.drop (i * sz)).take sz := by
      rw [List.drop_take, List.take_take, Nat.min_eq_left (by omega)]
    rw [e1, List.getElem_take]
    have h3 := he i (by omega)
    have e2 : (Value.slice p n cap).ownBlock = (Value.slice p k cap).ownBlock := by cases p <;> rfl
    rw [e2] at h3
    exact h3
theorem Acc.live {α : Type} {R : Rel α} (ok : R.Ok) {sz : Nat} {T : TypeId} {F : Nat → Prop} {B : Nat} {w : World} {v : Value} {xs : List α} (h : Acc R sz T F B w v xs) : Acc R sz T (fun k => F k ∧ k < w.heap.size) B w v xs := by
  obtain ⟨cells, ho, he⟩ := h
  exact ⟨cells, ho, fun i hi => ok.mono (fun k hk => ⟨⟨hk.1.1, hk.2⟩, hk.1.2⟩) (ok.live (he i hi))⟩
theorem Acc.base {α : Type} {R : Rel α} {sz : Nat} {T : TypeId} {F : Nat → Prop} {B B' : Nat} {w : World} {v : Value} {xs : List α} (h : Acc R sz T F B w v xs) (hb : B' ≤ B) : Acc R sz T F B' w v xs := by
  obtain ⟨cells, ho, he⟩ := h
  refine ⟨cells, ⟨ho.1, ?_⟩, he⟩
  rcases ho.2 with hn | ⟨g, cap, cur, hv, hg, rest⟩
  · exact .inl hn
  · exact .inr ⟨g, cap, cur, hv, by omega, rest⟩
end Go.Proofs.YtdgpminhkiilfaaGreatDoor
