/- Plain notions on worlds: what is kept, how slices read. No program in sight. -/
import Derived.WalkKit
import Derived.ProofKit
import Derived.BigQuiet
import Derived.Deep.QuietTactic
import Derived.Lib.Hide
import Derived.WalkLawsBesides
import Derived.WalkSpells
import Derived.Maps.AppendAt
namespace Go.Proofs.YtdgpminhkiilfaaGreatDoor
open Go.RowKit

/-- The blocks of w that F names are as they were. -/
structure Kept (F : Nat → Prop) (w w' : World) : Prop where
  os : w'.os = w.os
  tape : w'.tape = w.tape
  output : w'.output = w.output
  size : w.heap.size ≤ w'.heap.size
  block : ∀ k, k < w.heap.size → F k → w'.heap[k]? = w.heap[k]?

/-- Nothing that was there has changed. -/
abbrev All (w w' : World) : Prop := Kept (fun _ => True) w w'
/-- Nothing that was there has changed but block b. -/
abbrev But (b : Nat) (w w' : World) : Prop := Kept (fun k => k ≠ b) w w'

theorem Kept.refl (F : Nat → Prop) (w : World) : Kept F w w := ⟨rfl, rfl, rfl, Nat.le_refl _, fun _ _ _ => rfl⟩
theorem Kept.trans {F : Nat → Prop} {a b c : World} (h : Kept F a b) (k : Kept F b c) : Kept F a c :=
  ⟨k.os.trans h.os, k.tape.trans h.tape, k.output.trans h.output, Nat.le_trans h.size k.size,
   fun i hi hf => (k.block i (Nat.lt_of_lt_of_le hi h.size) hf).trans (h.block i hi hf)⟩
theorem Kept.trans2 {F G : Nat → Prop} {a b c : World} (h : Kept F a b) (k : Kept G b c) (hG : ∀ i, i < a.heap.size → F i → G i) : Kept F a c :=
  ⟨k.os.trans h.os, k.tape.trans h.tape, k.output.trans h.output, Nat.le_trans h.size k.size,
   fun i hi hf => (k.block i (Nat.lt_of_lt_of_le hi h.size) (hG i hi hf)).trans (h.block i hi hf)⟩
theorem Kept.mono {F G : Nat → Prop} {w w' : World} (h : Kept F w w') (hg : ∀ k, G k → F k) : Kept G w w' :=
  ⟨h.os, h.tape, h.output, h.size, fun k hk hf => h.block k hk (hg k hf)⟩
theorem Kept.all {F : Nat → Prop} {w w' : World} (h : All w w') : Kept F w w' := h.mono fun _ _ => trivial
theorem Kept.drewN (F : Nat → Prop) (w : World) (n : Nat) : Kept F w (w.drewN n) := ⟨rfl, rfl, rfl, Nat.le_refl _, fun _ _ _ => rfl⟩
theorem Kept.drew (F : Nat → Prop) (w : World) : Kept F w w.drew := ⟨rfl, rfl, rfl, Nat.le_refl _, fun _ _ _ => rfl⟩
theorem Kept.alloc (F : Nat → Prop) (w : World) (o : Obj) : Kept F w (w.alloc o) :=
  ⟨rfl, rfl, rfl, by simp, fun k hk _ => Below.heap_alloc _ _ _ hk⟩
theorem Kept.setCell {F : Nat → Prop} (w : World) (p : Addr) (u : Value) (hp : ¬ F p.block) : Kept F w (w.setCell p u) :=
  ⟨rfl, rfl, rfl, by simp [World.setCell], fun k _ hf => Below.heap_setCell _ _ _ _ (fun e => hp (e ▸ hf))⟩
theorem Kept.then_drewN {F : Nat → Prop} {a w : World} (h : Kept F a w) (n : Nat) : Kept F a (w.drewN n) := h.trans (Kept.drewN F w n)
theorem Kept.then_drew {F : Nat → Prop} {a w : World} (h : Kept F a w) : Kept F a w.drew := h.trans (Kept.drew F w)
theorem Kept.then_alloc {F : Nat → Prop} {a w : World} (h : Kept F a w) (o : Obj) : Kept F a (w.alloc o) := h.trans (Kept.alloc F w o)
theorem Kept.then_setCell {F : Nat → Prop} {a w : World} (h : Kept F a w) (p : Addr) (u : Value) (hp : ¬ F p.block) : Kept F a (w.setCell p u) := h.trans (Kept.setCell w p u hp)
/-- A store into a block that is new since a. -/
theorem Kept.then_setNew {F : Nat → Prop} {a w : World} (h : Kept F a w) (p : Addr) (u : Value) (hp : a.heap.size ≤ p.block) : Kept F a (w.setCell p u) :=
  ⟨h.os, h.tape, h.output, Nat.le_trans h.size (by simp [World.setCell]), fun k hk hf => (Below.heap_setCell _ _ _ _ (by omega)).trans (h.block k hk hf)⟩
theorem Kept.grown {F : Nat → Prop} {a w w' : World} {row : Option Nat} (h : Kept F a w) (hg : w.grownBy w' row) (hr : ∀ k, row = some k → a.heap.size ≤ k ∨ ¬ F k) : Kept F a w' :=
  ⟨hg.os.trans h.os, hg.tape.trans h.tape, hg.output.trans h.output, Nat.le_trans h.size hg.size,
   fun k hk hf => (hg.block k (Nat.lt_of_lt_of_le hk h.size) (fun e => (hr k e.symm).elim (fun h1 => by omega) (fun h1 => h1 hf))).trans (h.block k hk hf)⟩
theorem Kept.of_below {w w' : World} (h : Below w.heap.size w w') : All w w' := ⟨h.os, h.tape, h.output, h.size, fun k hk _ => h.block k hk⟩
theorem Kept.below {F : Nat → Prop} {w w' : World} (h : Kept F w w') {B : Nat} (hB : B ≤ w.heap.size) (hF : ∀ k, k < B → F k) : Below B w w' :=
  ⟨h.os, h.tape, h.output, h.size, fun k hk => h.block k (by omega) (hF k hk)⟩
theorem lt_of_cell {w : World} {p : Addr} {v : Value} (h : w.cell? p = some v) : p.block < w.heap.size := World.block_lt_of_cell? w p h
theorem Kept.cell {F : Nat → Prop} {w w' : World} (h : Kept F w w') {p : Addr} {v : Value} (hc : w.cell? p = some v) (hf : F p.block) : w'.cell? p = some v := by
  rw [World.cell?_of_block (w := w) (h.block p.block (lt_of_cell hc) hf)]; exact hc
theorem Kept.heap {F : Nat → Prop} {w w' : World} (h : Kept F w w') {b : Nat} {o : Obj} (hc : w.heap[b]? = some o) (hf : F b) : w'.heap[b]? = some o := by
  rw [h.block b (by rcases Array.getElem?_eq_some_iff.1 hc with ⟨h, _⟩; exact h) hf]; exact hc

theorem heap_at (w : World) (o : Obj) (b : Nat) (h : b = w.heap.size) : (w.alloc o).heap[b]? = some o := by
  subst h; exact heap_alloc_new w o
theorem heap_old {w : World} {b : Nat} {o : Obj} (o' : Obj) (h : w.heap[b]? = some o) : (w.alloc o').heap[b]? = some o := by
  rw [Below.heap_alloc w o' b (by rcases Array.getElem?_eq_some_iff.1 h with ⟨h, _⟩; exact h)]; exact h
theorem cell_at {w : World} {b i : Nat} {c : Array Value} {t : TypeId} {fz : Nat × Nat} {v : Value} (h : w.heap[b]? = some (.cells c t fz)) (hi : c[i]? = some v) : w.cell? ⟨b, i, none⟩ = some v := by
  simp [World.cell?, h, hi]
theorem frozen_at {w : World} {b i : Nat} {c : Array Value} {t : TypeId} (h : w.heap[b]? = some (.cells c t (0, 0))) : w.frozen? ⟨b, i, none⟩ = false := by
  simp [World.frozen?, h]

/-- How an element reads: its cells (their number is sz), read through blocks that F names. -/
abbrev Rel (α : Type) := (Nat → Prop) → World → List Value → α → Prop
/-- A reading that stays where its blocks stay. -/
structure Rel.Ok {α : Type} (R : Rel α) : Prop where
  keep : ∀ {F : Nat → Prop} {w w' : World} {vs : List Value} {x : α}, Kept F w w' → R F w vs x → R F w' vs x
  mono : ∀ {F G : Nat → Prop} {w : World} {vs : List Value} {x : α}, (∀ k, F k → G k) → R F w vs x → R G w vs x
  live : ∀ {F : Nat → Prop} {w : World} {vs : List Value} {x : α}, R F w vs x → R (fun k => F k ∧ k < w.heap.size) w vs x

/-- The slice (a, len) reads as xs, each element of sz cells by R, all of it in blocks that F names. -/
def Sl {α : Type} (R : Rel α) (sz : Nat) (F : Nat → Prop) (w : World) (a : Option Addr) (len : Nat) (xs : List α) : Prop :=
  xs.length = len ∧ (0 < len → ∃ b off, a = some ⟨b, off, none⟩ ∧ F b ∧ ∀ (i : Nat) (h : i < xs.length), ∃ vs : List Value, vs.length = sz ∧
    (∀ (j : Nat) (hj : j < vs.length), w.cell? ⟨b, off + i * sz + j, none⟩ = some vs[j]) ∧ R F w vs xs[i])

theorem Sl.len {α : Type} {R : Rel α} {sz : Nat} {F : Nat → Prop} {w : World} {a : Option Addr} {len : Nat} {xs : List α} (h : Sl R sz F w a len xs) : xs.length = len := h.1
theorem Sl.nil {α : Type} (R : Rel α) (sz : Nat) (F : Nat → Prop) (w : World) (a : Option Addr) : Sl R sz F w a 0 [] := ⟨rfl, fun h => absurd h (by omega)⟩

theorem Sl.keep {α : Type} {R : Rel α} (ok : R.Ok) {sz : Nat} {F : Nat → Prop} {w w' : World} {a : Option Addr} {len : Nat} {xs : List α} (hk : Kept F w w') (h : Sl R sz F w a len xs) : Sl R sz F w' a len xs := by
  refine ⟨h.1, fun hl => ?_⟩
  obtain ⟨b, off, ha, hF, hc⟩ := h.2 hl
  refine ⟨b, off, ha, hF, fun i hi => ?_⟩
  obtain ⟨vs, h1, h2, h3⟩ := hc i hi
  exact ⟨vs, h1, fun j hj => hk.cell (h2 j hj) hF, ok.keep hk h3⟩
theorem Sl.mono {α : Type} {R : Rel α} (ok : R.Ok) {sz : Nat} {F G : Nat → Prop} {w : World} {a : Option Addr} {len : Nat} {xs : List α} (hg : ∀ k, F k → G k) (h : Sl R sz F w a len xs) : Sl R sz G w a len xs := by
  refine ⟨h.1, fun hl => ?_⟩
  obtain ⟨b, off, ha, hF, hc⟩ := h.2 hl
  refine ⟨b, off, ha, hg b hF, fun i hi => ?_⟩
  obtain ⟨vs, h1, h2, h3⟩ := hc i hi
  exact ⟨vs, h1, h2, ok.mono hg h3⟩
theorem Sl.live {α : Type} {R : Rel α} (ok : R.Ok) {sz : Nat} (hsz : 0 < sz) {F : Nat → Prop} {w : World} {a : Option Addr} {len : Nat} {xs : List α} (h : Sl R sz F w a len xs) : Sl R sz (fun k => F k ∧ k < w.heap.size) w a len xs := by
  refine ⟨h.1, fun hl => ?_⟩
  obtain ⟨b, off, ha, hF, hc⟩ := h.2 hl
  have hb : b < w.heap.size := by
    obtain ⟨vs, h1, h2, _⟩ := hc 0 (by have := h.1; omega)
    exact lt_of_cell (h2 0 (by omega))
  refine ⟨b, off, ha, ⟨hF, hb⟩, fun i hi => ?_⟩
  obtain ⟨vs, h1, h2, h3⟩ := hc i hi
  exact ⟨vs, h1, h2, ok.live h3⟩

/-- A prefix of a slice (what l[:k] is). -/
theorem Sl.take {α : Type} {R : Rel α} {sz : Nat} {F : Nat → Prop} {w : World} {a : Option Addr} {len : Nat} {xs : List α} (h : Sl R sz F w a len xs) {k : Nat} (hk : k ≤ len) : Sl R sz F w a k (xs.take k) := by
  have hl := h.1
  refine ⟨by simp; omega, fun h0 => ?_⟩
  obtain ⟨b, off, ha, hF, hc⟩ := h.2 (by omega)
  refine ⟨b, off, ha, hF, fun i hi => ?_⟩
  simp only [List.length_take] at hi
  obtain ⟨vs, h1, h2, h3⟩ := hc i (by omega)
  exact ⟨vs, h1, h2, by simpa using h3⟩

theorem list_at {α : Type} {xs : List α} {k : Nat} (h : k < xs.length) : ∃ y, xs[k]? = some y ∧ xs = xs.take k ++ y :: xs.drop (k + 1) ∧ xs.take (k + 1) = xs.take k ++ [y] :=
  ⟨xs[k], List.getElem?_eq_getElem h, by rw [← List.drop_eq_getElem_cons h, List.take_append_drop], by rw [List.take_succ_eq_append_getElem h]⟩
/-- Element k of a slice: where its cells are, what they read as. -/
theorem Sl.at {α : Type} {R : Rel α} {sz : Nat} {F : Nat → Prop} {w : World} {a : Option Addr} {len : Nat} {xs : List α} (h : Sl R sz F w a len xs) {k : Nat} (hk : k < len) :
    ∃ b off vs y, a = some ⟨b, off, none⟩ ∧ F b ∧ vs.length = sz ∧ (∀ (j : Nat) (hj : j < vs.length), w.cell? ⟨b, off + k * sz + j, none⟩ = some vs[j]) ∧ R F w vs y ∧
      xs[k]? = some y ∧ xs = xs.take k ++ y :: xs.drop (k + 1) ∧ xs.take (k + 1) = xs.take k ++ [y] := by
  obtain ⟨b, off, ha, hF, hc⟩ := h.2 (by omega)
  have hk' : k < xs.length := by rw [h.1]; exact hk
  obtain ⟨vs, h1, h2, h3⟩ := hc k hk'
  exact ⟨b, off, vs, xs[k], ha, hF, h1, h2, h3, List.getElem?_eq_getElem hk', by rw [← List.drop_eq_getElem_cons hk', List.take_append_drop], by rw [List.take_succ_eq_append_getElem hk']⟩

/-- A string by itself. -/
def RStr : Rel ByteArray := fun _ _ vs s => vs = [.string s] ∧ s.size ≤ 1000000
theorem RStr.ok : RStr.Ok := ⟨fun _ h => h, fun _ h => h, fun h => h⟩
/-- A number by itself. -/
def RInt : Rel Int := fun _ _ vs n => vs = [.int .i64 n]
theorem RInt.ok : RInt.Ok := ⟨fun _ h => h, fun _ h => h, fun h => h⟩

/-- The cells of a slice of strings, one by one. -/
theorem Sl.strs {F : Nat → Prop} {w : World} {a : Option Addr} {len : Nat} {ss : List ByteArray} (h : Sl RStr 1 F w a len ss) (hl : 0 < len) :
    ∃ b off, a = some ⟨b, off, none⟩ ∧ F b ∧ ∀ i, i < len → w.cell? ⟨b, off + i, none⟩ = some (.string (ss.getD i ByteArray.empty)) ∧ (ss.getD i ByteArray.empty).size ≤ 1000000 := by
  obtain ⟨b, off, ha, hF, hc⟩ := h.2 hl
  refine ⟨b, off, ha, hF, fun i hi => ?_⟩
  obtain ⟨vs, h1, h2, h3, h4⟩ := hc i (by rw [h.1]; exact hi)
  have := h2 0 (by omega)
  subst h3
  simpa [List.getD_eq_getElem?_getD, List.getElem?_eq_getElem (show i < ss.length by rw [h.1]; exact hi), h4] using this
theorem Sl.of_strs {F : Nat → Prop} {w : World} {b off len : Nat} {ss : List ByteArray} (hl : ss.length = len) (hF : F b) (hc : ∀ i, i < len → w.cell? ⟨b, off + i, none⟩ = some (.string (ss.getD i ByteArray.empty))) (hz : ∀ s ∈ ss, s.size ≤ 1000000) : Sl RStr 1 F w (some ⟨b, off, none⟩) len ss := by
  refine ⟨hl, fun _ => ⟨b, off, rfl, hF, fun i hi => ⟨[.string ss[i]], rfl, fun j hj => ?_, rfl, hz _ (List.getElem_mem _)⟩⟩⟩
  have hj0 : j = 0 := by simpa using hj
  subst hj0
  have := hc i (by omega)
  simpa [List.getD_eq_getElem?_getD, List.getElem?_eq_getElem hi] using this
theorem Sl.ints {F : Nat → Prop} {w : World} {a : Option Addr} {len : Nat} {zs : List Int} (h : Sl RInt 1 F w a len zs) (hl : 0 < len) :
    ∃ b off, a = some ⟨b, off, none⟩ ∧ F b ∧ ∀ i, i < len → w.cell? ⟨b, off + i, none⟩ = some (.int .i64 (zs.getD i 0)) := by
  obtain ⟨b, off, ha, hF, hc⟩ := h.2 hl
  refine ⟨b, off, ha, hF, fun i hi => ?_⟩
  obtain ⟨vs, h1, h2, h3⟩ := hc i (by rw [h.1]; exact hi)
  have := h2 0 (by omega)
  cases h3
  simpa [List.getD_eq_getElem?_getD, List.getElem?_eq_getElem (show i < zs.length by rw [h.1]; exact hi)] using this
theorem Sl.of_ints {F : Nat → Prop} {w : World} {b off len : Nat} {zs : List Int} (hl : zs.length = len) (hF : F b) (hc : ∀ i, i < len → w.cell? ⟨b, off + i, none⟩ = some (.int .i64 (zs.getD i 0))) : Sl RInt 1 F w (some ⟨b, off, none⟩) len zs := by
  refine ⟨hl, fun _ => ⟨b, off, rfl, hF, fun i hi => ⟨[.int .i64 zs[i]], rfl, fun j hj => ?_, rfl⟩⟩⟩
  have hj0 : j = 0 := by simpa using hj
  subst hj0
  have := hc i (by omega)
  simpa [List.getD_eq_getElem?_getD, List.getElem?_eq_getElem hi] using this
theorem Sl.atStr {F : Nat → Prop} {w : World} {a : Option Addr} {len : Nat} {ss : List ByteArray} (h : Sl RStr 1 F w a len ss) {k : Nat} (hk : k < len) :
    ∃ b off y, a = some ⟨b, off, none⟩ ∧ F b ∧ w.cell? ⟨b, off + k, none⟩ = some (.string y) ∧ y.size ≤ 1000000 ∧ ss[k]? = some y ∧ ss = ss.take k ++ y :: ss.drop (k + 1) ∧ ss.take (k + 1) = ss.take k ++ [y] := by
  obtain ⟨b, off, vs, y, ha, hF, h1, h2, ⟨h3, hz⟩, h4, h5, h6⟩ := h.at hk
  subst h3
  exact ⟨b, off, y, ha, hF, by simpa using h2 0 (by simp), hz, h4, h5, h6⟩
theorem Sl.atInt {F : Nat → Prop} {w : World} {a : Option Addr} {len : Nat} {zs : List Int} (h : Sl RInt 1 F w a len zs) {k : Nat} (hk : k < len) :
    ∃ b off y, a = some ⟨b, off, none⟩ ∧ F b ∧ w.cell? ⟨b, off + k, none⟩ = some (.int .i64 y) ∧ zs[k]? = some y ∧ zs = zs.take k ++ y :: zs.drop (k + 1) ∧ zs.take (k + 1) = zs.take k ++ [y] := by
  obtain ⟨b, off, vs, y, ha, hF, h1, h2, h3, h4, h5, h6⟩ := h.at hk
  cases h3
  exact ⟨b, off, y, ha, hF, by simpa using h2 0 (by simp), h4, h5, h6⟩
end Go.Proofs.YtdgpminhkiilfaaGreatDoor
