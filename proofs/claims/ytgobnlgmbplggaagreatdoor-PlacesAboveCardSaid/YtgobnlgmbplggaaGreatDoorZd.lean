/- Plain notions on worlds: what is kept, how slices read. No program in sight. -/
import Derived.WalkKit
import Derived.ProofKit
import Derived.BigQuiet
import Derived.Deep.QuietTactic
import Derived.Lib.Hide
import Derived.WalkLawsBesides
import Derived.WalkSpells
import Derived.Maps.AppendAt
import Derived.Test.YtgobnlgmbplggaaGreatDoorProg
import Derived.Test.YtgobnlgmbplggaaGreatDoorCards
import Derived.Test.YtgobnlgmbplggaaGreatDoorTie
import Derived.OpenShut
import Derived.Deep.DeepHandedRow
import Derived.Lib.LaidTab
import Derived.Deep.RegionHeld3
import Derived.Deep.RegionLaw
import Derived.BigRegion
import Derived.Deep.DeepCutAuto
import Derived.Deep.AppendLies
namespace Go.Proofs.YtgobnlgmbplggaaGreatDoor
open Go.RowKit

/-- The blocks of w that F names are as they were. -/
structure Kept (F : Nat → Prop) (w w' : World) : Prop where
  os : w'.os = w.os
  tape : w'.tape = w.tape
  output : w'.output = w.output
  size : w.heap.size ≤ w'.heap.size
  block : ∀ k, k < w.heap.size → F k → w'.heap[k]? = w.heap[k]?

/-- Nothing that was there has changed. -/
abbrev All (w w' : World) : Prop := Kept (fun _ => True) w w'
/-- Nothing that was there has changed but block b. -/
abbrev But (b : Nat) (w w' : World) : Prop := Kept (fun k => k ≠ b) w w'

theorem Kept.refl (F : Nat → Prop) (w : World) : Kept F w w := ⟨rfl, rfl, rfl, Nat.le_refl _, fun _ _ _ => rfl⟩
theorem Kept.trans {F : Nat → Prop} {a b c : World} (h : Kept F a b) (k : Kept F b c) : Kept F a c :=
  ⟨k.os.trans h.os, k.tape.trans h.tape, k.output.trans h.output, Nat.le_trans h.size k.size,
   fun i hi hf => (k.block i (Nat.lt_of_lt_of_le hi h.size) hf).trans (h.block i hi hf)⟩
theorem Kept.trans2 {F G : Nat → Prop} {a b c : World} (h : Kept F a b) (k : Kept G b c) (hG : ∀ i, i < a.heap.size → F i → G i) : Kept F a c :=
  ⟨k.os.trans h.os, k.tape.trans h.tape, k.output.trans h.output, Nat.le_trans h.size k.size,
   fun i hi hf => (k.block i (Nat.lt_of_lt_of_le hi h.size) (hG i hi hf)).trans (h.block i hi hf)⟩
theorem Kept.mono {F G : Nat → Prop} {w w' : World} (h : Kept F w w') (hg : ∀ k, G k → F k) : Kept G w w' :=
  ⟨h.os, h.tape, h.output, h.size, fun k hk hf => h.block k hk (hg k hf)⟩
theorem Kept.all {F : Nat → Prop} {w w' : World} (h : All w w') : Kept F w w' := h.mono fun _ _ => trivial
theorem Kept.drewN (F : Nat → Prop) (w : World) (n : Nat) : Kept F w (w.drewN n) := ⟨rfl, rfl, rfl, Nat.le_refl _, fun _ _ _ => rfl⟩
theorem Kept.drew (F : Nat → Prop) (w : World) : Kept F w w.drew := ⟨rfl, rfl, rfl, Nat.le_refl _, fun _ _ _ => rfl⟩
theorem Kept.alloc (F : Nat → Prop) (w : World) (o : Obj) : Kept F w (w.alloc o) :=
  ⟨rfl, rfl, rfl, by simp, fun k hk _ => Below.heap_alloc _ _ _ hk⟩
theorem Kept.setCell {F : Nat → Prop} (w : World) (p : Addr) (u : Value) (hp : ¬ F p.block) : Kept F w (w.setCell p u) :=
  ⟨rfl, rfl, rfl, by simp [World.setCell], fun k _ hf => Below.heap_setCell _ _ _ _ (fun e => hp (e ▸ hf))⟩
theorem Kept.then_drewN {F : Nat → Prop} {a w : World} (h : Kept F a w) (n : Nat) : Kept F a (w.drewN n) := h.trans (Kept.drewN F w n)
theorem Kept.then_drew {F : Nat → Prop} {a w : World} (h : Kept F a w) : Kept F a w.drew := h.trans (Kept.drew F w)
theorem Kept.then_alloc {F : Nat → Prop} {a w : World} (h : Kept F a w) (o : Obj) : Kept F a (w.alloc o) := h.trans (Kept.alloc F w o)
theorem Kept.then_setCell {F : Nat → Prop} {a w : World} (h : Kept F a w) (p : Addr) (u : Value) (hp : ¬ F p.block) : Kept F a (w.setCell p u) := h.trans (Kept.setCell w p u hp)
/-- A store into a block that is new since a. -/
theorem Kept.then_setNew {F : Nat → Prop} {a w : World} (h : Kept F a w) (p : Addr) (u : Value) (hp : a.heap.size ≤ p.block) : Kept F a (w.setCell p u) :=
  ⟨h.os, h.tape, h.output, Nat.le_trans h.size (by simp [World.setCell]), fun k hk hf => (Below.heap_setCell _ _ _ _ (by omega)).trans (h.block k hk hf)⟩
theorem Kept.grown {F : Nat → Prop} {a w w' : World} {row : Option Nat} (h : Kept F a w) (hg : w.grownBy w' row) (hr : ∀ k, row = some k → a.heap.size ≤ k ∨ ¬ F k) : Kept F a w' :=
  ⟨hg.os.trans h.os, hg.tape.trans h.tape, hg.output.trans h.output, Nat.le_trans h.size hg.size,
   fun k hk hf => (hg.block k (Nat.lt_of_lt_of_le hk h.size) (fun e => (hr k e.symm).elim (fun h1 => by omega) (fun h1 => h1 hf))).trans (h.block k hk hf)⟩
theorem Kept.of_below {w w' : World} (h : Below w.heap.size w w') : All w w' := ⟨h.os, h.tape, h.output, h.size, fun k hk _ => h.block k hk⟩
theorem Kept.below {F : Nat → Prop} {w w' : World} (h : Kept F w w') {B : Nat} (hB : B ≤ w.heap.size) (hF : ∀ k, k < B → F k) : Below B w w' :=
  ⟨h.os, h.tape, h.output, h.size, fun k hk => h.block k (by omega) (hF k hk)⟩
theorem lt_of_cell {w : World} {p : Addr} {v : Value} (h : w.cell? p = some v) : p.block < w.heap.size := World.block_lt_of_cell? w p h
theorem Kept.cell {F : Nat → Prop} {w w' : World} (h : Kept F w w') {p : Addr} {v : Value} (hc : w.cell? p = some v) (hf : F p.block) : w'.cell? p = some v := by
  rw [World.cell?_of_block (w := w) (h.block p.block (lt_of_cell hc) hf)]; exact hc
theorem Kept.heap {F : Nat → Prop} {w w' : World} (h : Kept F w w') {b : Nat} {o : Obj} (hc : w.heap[b]? = some o) (hf : F b) : w'.heap[b]? = some o := by
  rw [h.block b (by rcases Array.getElem?_eq_some_iff.1 hc with ⟨h, _⟩; exact h) hf]; exact hc

theorem heap_at (w : World) (o : Obj) (b : Nat) (h : b = w.heap.size) : (w.alloc o).heap[b]? = some o := by
  subst h; exact heap_alloc_new w o
theorem heap_old {w : World} {b : Nat} {o : Obj} (o' : Obj) (h : w.heap[b]? = some o) : (w.alloc o').heap[b]? = some o := by
  rw [Below.heap_alloc w o' b (by rcases Array.getElem?_eq_some_iff.1 h with ⟨h, _⟩; exact h)]; exact h
theorem cell_at {w : World} {b i : Nat} {c : Array Value} {t : TypeId} {fz : Nat × Nat} {v : Value} (h : w.heap[b]? = some (.cells c t fz)) (hi : c[i]? = some v) : w.cell? ⟨b, i, none⟩ = some v := by
  simp [World.cell?, h, hi]
theorem frozen_at {w : World} {b i : Nat} {c : Array Value} {t : TypeId} (h : w.heap[b]? = some (.cells c t (0, 0))) : w.frozen? ⟨b, i, none⟩ = false := by
  simp [World.frozen?, h]

/-- How an element reads: its cells (their number is sz), read through blocks that F names. -/
abbrev Rel (α : Type) := (Nat → Prop) → World → List Value → α → Prop
/-- A reading that stays where its blocks stay. -/
structure Rel.Ok {α : Type} (R : Rel α) : Prop where
  keep : ∀ {F : Nat → Prop} {w w' : World} {vs : List Value} {x : α}, Kept F w w' → R F w vs x → R F w' vs x
  mono : ∀ {F G : Nat → Prop} {w : World} {vs : List Value} {x : α}, (∀ k, F k → G k) → R F w vs x → R G w vs x
  live : ∀ {F : Nat → Prop} {w : World} {vs : List Value} {x : α}, R F w vs x → R (fun k => F k ∧ k < w.heap.size) w vs x

/-- The slice (a, len) reads as xs, each element of sz cells by R, all of it in blocks that F names. -/
def Sl {α : Type} (R : Rel α) (sz : Nat) (F : Nat → Prop) (w : World) (a : Option Addr) (len : Nat) (xs : List α) : Prop :=
  xs.length = len ∧ (0 < len → ∃ b off, a = some ⟨b, off, none⟩ ∧ F b ∧ ∀ (i : Nat) (h : i < xs.length), ∃ vs : List Value, vs.length = sz ∧
    (∀ (j : Nat) (hj : j < vs.length), w.cell? ⟨b, off + i * sz + j, none⟩ = some vs[j]) ∧ R F w vs xs[i])

theorem Sl.len {α : Type} {R : Rel α} {sz : Nat} {F : Nat → Prop} {w : World} {a : Option Addr} {len : Nat} {xs : List α} (h : Sl R sz F w a len xs) : xs.length = len := h.1
theorem Sl.nil {α : Type} (R : Rel α) (sz : Nat) (F : Nat → Prop) (w : World) (a : Option Addr) : Sl R sz F w a 0 [] := ⟨rfl, fun h => absurd h (by omega)⟩

theorem Sl.keep {α : Type} {R : Rel α} (ok : R.Ok) {sz : Nat} {F : Nat → Prop} {w w' : World} {a : Option Addr} {len : Nat} {xs : List α} (hk : Kept F w w') (h : Sl R sz F w a len xs) : Sl R sz F w' a len xs := by
  refine ⟨h.1, fun hl => ?_⟩
  obtain ⟨b, off, ha, hF, hc⟩ := h.2 hl
  refine ⟨b, off, ha, hF, fun i hi => ?_⟩
  obtain ⟨vs, h1, h2, h3⟩ := hc i hi
  exact ⟨vs, h1, fun j hj => hk.cell (h2 j hj) hF, ok.keep hk h3⟩
theorem Sl.mono {α : Type} {R : Rel α} (ok : R.Ok) {sz : Nat} {F G : Nat → Prop} {w : World} {a : Option Addr} {len : Nat} {xs : List α} (hg : ∀ k, F k → G k) (h : Sl R sz F w a len xs) : Sl R sz G w a len xs := by
  refine ⟨h.1, fun hl => ?_⟩
  obtain ⟨b, off, ha, hF, hc⟩ := h.2 hl
  refine ⟨b, off, ha, hg b hF, fun i hi => ?_⟩
  obtain ⟨vs, h1, h2, h3⟩ := hc i hi
  exact ⟨vs, h1, h2, ok.mono hg h3⟩
theorem Sl.live {α : Type} {R : Rel α} (ok : R.Ok) {sz : Nat} (hsz : 0 < sz) {F : Nat → Prop} {w : World} {a : Option Addr} {len : Nat} {xs : List α} (h : Sl R sz F w a len xs) : Sl R sz (fun k => F k ∧ k < w.heap.size) w a len xs := by
  refine ⟨h.1, fun hl => ?_⟩
  obtain ⟨b, off, ha, hF, hc⟩ := h.2 hl
  have hb : b < w.heap.size := by
    obtain ⟨vs, h1, h2, _⟩ := hc 0 (by have := h.1; omega)
    exact lt_of_cell (h2 0 (by omega))
  refine ⟨b, off, ha, ⟨hF, hb⟩, fun i hi => ?_⟩
  obtain ⟨vs, h1, h2, h3⟩ := hc i hi
  exact ⟨vs, h1, h2, ok.live h3⟩

/-- A prefix of a slice (what l[:k] is). -/
theorem Sl.take {α : Type} {R : Rel α} {sz : Nat} {F : Nat → Prop} {w : World} {a : Option Addr} {len : Nat} {xs : List α} (h : Sl R sz F w a len xs) {k : Nat} (hk : k ≤ len) : Sl R sz F w a k (xs.take k) := by
  have hl := h.1
  refine ⟨by simp; omega, fun h0 => ?_⟩
  obtain ⟨b, off, ha, hF, hc⟩ := h.2 (by omega)
  refine ⟨b, off, ha, hF, fun i hi => ?_⟩
  simp only [List.length_take] at hi
  obtain ⟨vs, h1, h2, h3⟩ := hc i (by omega)
  exact ⟨vs, h1, h2, by simpa using h3⟩

/-- Element k of a slice: where its cells are, what they read as. -/
theorem Sl.at {α : Type} {R : Rel α} {sz : Nat} {F : Nat → Prop} {w : World} {a : Option Addr} {len : Nat} {xs : List α} (h : Sl R sz F w a len xs) {k : Nat} (hk : k < len) :
    ∃ b off vs y, a = some ⟨b, off, none⟩ ∧ F b ∧ vs.length = sz ∧ (∀ (j : Nat) (hj : j < vs.length), w.cell? ⟨b, off + k * sz + j, none⟩ = some vs[j]) ∧ R F w vs y ∧
      xs[k]? = some y ∧ xs = xs.take k ++ y :: xs.drop (k + 1) ∧ xs.take (k + 1) = xs.take k ++ [y] := by
  obtain ⟨b, off, ha, hF, hc⟩ := h.2 (by omega)
  have hk' : k < xs.length := by rw [h.1]; exact hk
  obtain ⟨vs, h1, h2, h3⟩ := hc k hk'
  exact ⟨b, off, vs, xs[k], ha, hF, h1, h2, h3, List.getElem?_eq_getElem hk', by rw [← List.drop_eq_getElem_cons hk', List.take_append_drop], by rw [List.take_succ_eq_append_getElem hk']⟩

/-- A string by itself. -/
def RStr : Rel ByteArray := fun _ _ vs s => vs = [.string s] ∧ s.size ≤ 1000000
theorem RStr.ok : RStr.Ok := ⟨fun _ h => h, fun _ h => h, fun h => h⟩
/-- A number by itself. -/
def RInt : Rel Int := fun _ _ vs n => vs = [.int .i64 n]
theorem RInt.ok : RInt.Ok := ⟨fun _ h => h, fun _ h => h, fun h => h⟩

/-- The cells of a slice of strings, one by one. -/
theorem Sl.strs {F : Nat → Prop} {w : World} {a : Option Addr} {len : Nat} {ss : List ByteArray} (h : Sl RStr 1 F w a len ss) (hl : 0 < len) :
    ∃ b off, a = some ⟨b, off, none⟩ ∧ F b ∧ ∀ i, i < len → w.cell? ⟨b, off + i, none⟩ = some (.string (ss.getD i ByteArray.empty)) ∧ (ss.getD i ByteArray.empty).size ≤ 1000000 := by
  obtain ⟨b, off, ha, hF, hc⟩ := h.2 hl
  refine ⟨b, off, ha, hF, fun i hi => ?_⟩
  obtain ⟨vs, h1, h2, h3, h4⟩ := hc i (by rw [h.1]; exact hi)
  have := h2 0 (by omega)
  subst h3
  simpa [List.getD_eq_getElem?_getD, List.getElem?_eq_getElem (show i < ss.length by rw [h.1]; exact hi), h4] using this
theorem Sl.of_strs {F : Nat → Prop} {w : World} {b off len : Nat} {ss : List ByteArray} (hl : ss.length = len) (hF : F b) (hc : ∀ i, i < len → w.cell? ⟨b, off + i, none⟩ = some (.string (ss.getD i ByteArray.empty))) (hz : ∀ s ∈ ss, s.size ≤ 1000000) : Sl RStr 1 F w (some ⟨b, off, none⟩) len ss := by
  refine ⟨hl, fun _ => ⟨b, off, rfl, hF, fun i hi => ⟨[.string ss[i]], rfl, fun j hj => ?_, rfl, hz _ (List.getElem_mem _)⟩⟩⟩
  have hj0 : j = 0 := by simpa using hj
  subst hj0
  have := hc i (by omega)
  simpa [List.getD_eq_getElem?_getD, List.getElem?_eq_getElem hi] using this
theorem Sl.ints {F : Nat → Prop} {w : World} {a : Option Addr} {len : Nat} {zs : List Int} (h : Sl RInt 1 F w a len zs) (hl : 0 < len) :
    ∃ b off, a = some ⟨b, off, none⟩ ∧ F b ∧ ∀ i, i < len → w.cell? ⟨b, off + i, none⟩ = some (.int .i64 (zs.getD i 0)) := by
  obtain ⟨b, off, ha, hF, hc⟩ := h.2 hl
  refine ⟨b, off, ha, hF, fun i hi => ?_⟩
  obtain ⟨vs, h1, h2, h3⟩ := hc i (by rw [h.1]; exact hi)
  have := h2 0 (by omega)
  cases h3
  simpa [List.getD_eq_getElem?_getD, List.getElem?_eq_getElem (show i < zs.length by rw [h.1]; exact hi)] using this
theorem Sl.of_ints {F : Nat → Prop} {w : World} {b off len : Nat} {zs : List Int} (hl : zs.length = len) (hF : F b) (hc : ∀ i, i < len → w.cell? ⟨b, off + i, none⟩ = some (.int .i64 (zs.getD i 0))) : Sl RInt 1 F w (some ⟨b, off, none⟩) len zs := by
  refine ⟨hl, fun _ => ⟨b, off, rfl, hF, fun i hi => ⟨[.int .i64 zs[i]], rfl, fun j hj => ?_, rfl⟩⟩⟩
  have hj0 : j = 0 := by simpa using hj
  subst hj0
  have := hc i (by omega)
  simpa [List.getD_eq_getElem?_getD, List.getElem?_eq_getElem hi] using this
theorem Sl.atStr {F : Nat → Prop} {w : World} {a : Option Addr} {len : Nat} {ss : List ByteArray} (h : Sl RStr 1 F w a len ss) {k : Nat} (hk : k < len) :
    ∃ b off y, a = some ⟨b, off, none⟩ ∧ F b ∧ w.cell? ⟨b, off + k, none⟩ = some (.string y) ∧ y.size ≤ 1000000 ∧ ss[k]? = some y ∧ ss = ss.take k ++ y :: ss.drop (k + 1) ∧ ss.take (k + 1) = ss.take k ++ [y] := by
  obtain ⟨b, off, vs, y, ha, hF, h1, h2, ⟨h3, hz⟩, h4, h5, h6⟩ := h.at hk
  subst h3
  exact ⟨b, off, y, ha, hF, by simpa using h2 0 (by simp), hz, h4, h5, h6⟩
theorem Sl.atInt {F : Nat → Prop} {w : World} {a : Option Addr} {len : Nat} {zs : List Int} (h : Sl RInt 1 F w a len zs) {k : Nat} (hk : k < len) :
    ∃ b off y, a = some ⟨b, off, none⟩ ∧ F b ∧ w.cell? ⟨b, off + k, none⟩ = some (.int .i64 y) ∧ zs[k]? = some y ∧ zs = zs.take k ++ y :: zs.drop (k + 1) ∧ zs.take (k + 1) = zs.take k ++ [y] := by
  obtain ⟨b, off, vs, y, ha, hF, h1, h2, h3, h4, h5, h6⟩ := h.at hk
  cases h3
  exact ⟨b, off, y, ha, hF, by simpa using h2 0 (by simp), h4, h5, h6⟩
end Go.Proofs.YtgobnlgmbplggaaGreatDoor

/- Contracts of the stream that makes inputs: Below, Next, Range, Flip, Pick, some10, odd10. -/
namespace Go.Proofs.YtgobnlgmbplggaaGreatDoor
open Go.RowKit
theorem tmod_low (x n : Int) (hn : 1 ≤ n) : -n < x.tmod n ∧ x.tmod n < n :=
  ⟨Int.lt_tmod_of_pos x (show 0 < n by omega), Int.tmod_lt_of_pos x (show 0 < n by omega)⟩

/-- Below of any number is within its range. -/
def BelowPost (n : Int) (w : World) (e : Ending) (w' : World) : Prop := ∃ r : Int, e = .returned (.int .i64 r) ∧ 0 ≤ r ∧ r < n ∧ w = w'
theorem below_any (x n : Int) (w : World) (h1 : 1 ≤ n) (h2 : n ≤ 9223372036854775807) :
    Calls Tryz.prog 74 #[.int .i64 x, .int .i64 n] w (BelowPost n w) := by
  obtain ⟨ht1, ht2⟩ := tmod_low x n h1
  go_enter Tryz.func74, Tryz.ntmps74
  go_wp2
  · go_ret
    exact ⟨_, rfl, by omega, by omega, rfl⟩
  · go_ret
    exact ⟨_, rfl, by omega, by omega, rfl⟩

/-- Where a stream lies, and the numbers that it has. -/
structure St where
  b : Nat
  a0 : Option Addr
  len : Nat
  cap : Nat

/-- The stream σ in w has handed out n numbers. -/
structure Str (σ : St) (w : World) (n : Nat) : Prop where
  blk : w.heap[σ.b]? = some (.cells #[.slice σ.a0 σ.len σ.cap, .int .i64 n] 25 (0, 0))
  row : ∃ zs, Sl RInt 1 (fun k => k < σ.b) w σ.a0 σ.len zs
  lb : σ.len ≤ 9223372036854775807
theorem Str.s0 {σ : St} {w : World} {n : Nat} (h : Str σ w n) : w.cell? ⟨σ.b, 0, none⟩ = some (.slice σ.a0 σ.len σ.cap) := by
  simp [World.cell?, h.blk]
theorem Str.s1 {σ : St} {w : World} {n : Nat} (h : Str σ w n) : w.cell? ⟨σ.b, 1, none⟩ = some (.int .i64 n) := by
  simp [World.cell?, h.blk]
theorem Str.fz {σ : St} {w : World} {n : Nat} (h : Str σ w n) (i : Nat) : w.frozen? ⟨σ.b, i, none⟩ = false := by
  simp [World.frozen?, h.blk]
theorem Str.lt {σ : St} {w : World} {n : Nat} (h : Str σ w n) : σ.b < w.heap.size := lt_of_cell h.s0
theorem Str.kept {σ : St} {F : Nat → Prop} {w w' : World} {n : Nat} (h : Str σ w n) (k : Kept F w w') (hF : ∀ k, k ≤ σ.b → F k) : Str σ w' n := by
  refine ⟨k.heap h.blk (hF _ (Nat.le_refl _)), ?_, h.lb⟩
  obtain ⟨zs, hz⟩ := h.row
  exact ⟨zs, hz.keep RInt.ok (k.mono fun i hi => hF i (Nat.le_of_lt hi))⟩
theorem Str.keep {σ : St} {w w' : World} {n : Nat} (h : Str σ w n) (k : All w w') : Str σ w' n := h.kept k fun _ _ => trivial
theorem Str.set {σ : St} {w : World} {n : Nat} (h : Str σ w n) (p : Addr) (u : Value) (hp : σ.b < p.block) : Str σ (w.setCell p u) n :=
  h.kept (Kept.setCell (F := fun k => k ≤ σ.b) w p u (by omega)) fun _ h => h
theorem heap_setCell_at (w : World) (b i : Nat) (u : Value) (c : Array Value) (t : TypeId) (fz : Nat × Nat) (h : w.heap[b]? = some (.cells c t fz)) :
    (w.setCell ⟨b, i, none⟩ u).heap[b]? = some (.cells (c.setIfInBounds i u) t fz) := by
  simp [World.setCell, Array.getElem?_modify, h]
theorem Str.step {σ : St} {w : World} {n : Nat} (h : Str σ w n) : Str σ (w.setCell ⟨σ.b, 1, none⟩ (.int .i64 ((n : Int) + 1))) (n + 1) := by
  refine ⟨?_, ?_, h.lb⟩
  · rw [heap_setCell_at _ _ _ _ _ _ _ h.blk]
    simp
  · obtain ⟨zs, hz⟩ := h.row
    exact ⟨zs, hz.keep RInt.ok (Kept.setCell _ _ _ (by simp))⟩

/-- What a method of the stream leaves: a value of which Q holds, the stream after at most c more numbers, and all else as it was. -/
def StPost (σ : St) (n c : Nat) (w : World) (Q : Value → World → Prop) (e : Ending) (w' : World) : Prop :=
  ∃ v m, e = .returned v ∧ Q v w' ∧ n ≤ m ∧ m ≤ n + c ∧ Str σ w' m ∧ But σ.b w w'

def IsNum (P : Int → Prop) (v : Value) (_ : World) : Prop := ∃ r : Int, v = .int .i64 r ∧ P r
def IsBool (v : Value) (_ : World) : Prop := ∃ r : Bool, v = .bool r
def IsStr (P : ByteArray → Prop) (v : Value) (_ : World) : Prop := ∃ r : ByteArray, v = .string r ∧ P r

set_option maxHeartbeats 400000 in
theorem next_any (σ : St) (n : Nat) (m : Int) (w : World) (hs : Str σ w n) (hn : n ≤ 4611686018427387904) (h1 : 1 ≤ m) (h2 : m ≤ 9223372036854775807) :
    Calls Tryz.prog 22 #[.pointer (some ⟨σ.b, 0, none⟩), .int .i64 m] w (StPost σ n 1 w (IsNum fun r => 0 ≤ r ∧ r < m)) := by
  have s0 := hs.s0
  have s1 := hs.s1
  have fz := hs.fz 1
  have hlb := hs.lb
  have hstep := hs.step
  have hbut : But σ.b w (w.setCell ⟨σ.b, 1, none⟩ (.int .i64 ((n : Int) + 1))) := Kept.setCell _ _ _ (by simp)
  have HS := Lib.hid hstep
  have HB := Lib.hid hbut
  clear hstep hbut
  obtain ⟨zs, hz⟩ := hs.row
  obtain ⟨b, a0, len, cap⟩ := σ
  dsimp only at *
  by_cases hlen : len = 0
  · subst hlen
    clear hz hs
    go_enter Tryz.func22, Tryz.ntmps22
    go_wp2_with fail
    refine (below_any _ _ _ h1 h2).mono ?_
    rintro e w' ⟨r, rfl, hr1, hr2, rfl⟩
    go_wp2_with fail
    go_ret
    exact ⟨_, n + 1, rfl, ⟨r, rfl, hr1, hr2⟩, by omega, by omega, HS.out, HB.out⟩
  · obtain ⟨b0, off, ha0, hb0, hrow⟩ := hz.ints (by omega)
    subst ha0
    have hl0 : ((len : Int) == 0) = false := by simp; omega
    have hm1 : 0 ≤ (n : Int) % (len : Int) := Int.emod_nonneg _ (by omega)
    have hm2 : (n : Int) % (len : Int) < len := Int.emod_lt_of_pos _ (by omega)
    have hci := hrow (n % len) (Nat.mod_lt _ (by omega))
    generalize zs.getD (n % len) 0 = zi at hci
    clear hrow hz hs
    go_enter Tryz.func22, Tryz.ntmps22
    go_wp2_with fail
    go_quiet (fail)
    go_wp2_with fail
    go_quiet (fail)
    go_wp2_with fail
    refine (below_any _ _ _ (by omega) (by omega)).mono ?_
    rintro e w' ⟨r1, rfl, hr1, hr2, rfl⟩
    go_wp2_with fail
    refine (below_any _ _ _ h1 h2).mono ?_
    rintro e w' ⟨r, rfl, hr3, hr4, rfl⟩
    go_wp2_with fail
    go_ret
    exact ⟨_, n + 1, rfl, ⟨r, rfl, hr3, hr4⟩, by omega, by omega, HS.out.keep (Kept.drewN _ _ _), HB.out.then_drewN _⟩

theorem range_any (σ : St) (n : Nat) (lo hi : Int) (w : World) (hs : Str σ w n) (hn : n ≤ 4611686018427387904) (h1 : lo ≤ hi) (h2 : -1000000000000 ≤ lo) (h3 : hi ≤ 1000000000000) :
    Calls Tryz.prog 11 #[.pointer (some ⟨σ.b, 0, none⟩), .int .i64 lo, .int .i64 hi] w (StPost σ n 1 w (IsNum fun r => lo ≤ r ∧ r ≤ hi)) := by
  have hd : decide (hi < lo) = false := by simp; omega
  go_enter Tryz.func11, Tryz.ntmps11
  go_wp2_with fail
  refine (next_any σ n _ _ hs hn (by omega) (by omega)).mono ?_
  rintro e w' ⟨v, m, rfl, ⟨r, rfl, hr1, hr2⟩, hm1, hm2, hs', hb'⟩
  go_wp2_with fail
  go_ret
  exact ⟨_, m, rfl, ⟨_, rfl, by omega, by omega⟩, hm1, hm2, hs', hb'⟩

theorem flip_any (σ : St) (n : Nat) (k : Int) (w : World) (hs : Str σ w n) (hn : n ≤ 4611686018427387904) (h1 : 1 ≤ k) (h2 : k ≤ 1000000000000) :
    Calls Tryz.prog 20 #[.pointer (some ⟨σ.b, 0, none⟩), .int .i64 k] w (StPost σ n 1 w IsBool) := by
  go_enter Tryz.func20, Tryz.ntmps20
  go_wp2_with fail
  refine (next_any σ n _ _ hs hn (by omega) (by omega)).mono ?_
  rintro e w' ⟨v, m, rfl, ⟨r, rfl, hr1, hr2⟩, hm1, hm2, hs', hb'⟩
  go_wp2_with fail
  go_ret
  exact ⟨_, m, rfl, ⟨_, rfl⟩, hm1, hm2, hs', hb'⟩

theorem pick_any (σ : St) (n : Nat) (a : Option Addr) (len cap : Nat) (zs : List Int) (w : World) (hs : Str σ w n) (hn : n ≤ 4611686018427387904)
    (hz : Sl RInt 1 (fun k => k ≠ σ.b) w a len zs) (h1 : 0 < len) (h2 : len ≤ 1000000) :
    Calls Tryz.prog 13 #[.pointer (some ⟨σ.b, 0, none⟩), .slice a len cap] w (StPost σ n 1 w (IsNum fun r => r ∈ zs)) := by
  go_enter Tryz.func13, Tryz.ntmps13
  go_wp2_with fail
  refine (next_any σ n _ _ hs hn (by omega) (by omega)).mono ?_
  rintro e w' ⟨v, m, rfl, ⟨r, rfl, hr1, hr2⟩, hm1, hm2, hs', hb'⟩
  obtain ⟨i, rfl⟩ := Int.eq_ofNat_of_zero_le hr1
  have hl := hz.len
  obtain ⟨b0, off, ha0, hb0, hrow⟩ := (hz.keep RInt.ok hb').ints h1
  have hci := hrow i (by omega)
  have hmem : zs.getD i 0 ∈ zs := by
    rw [List.getD_eq_getElem?_getD, List.getElem?_eq_getElem (by omega)]
    exact List.getElem_mem _
  generalize zs.getD i 0 = zi at hci hmem
  subst ha0
  clear hrow hz hs
  go_wp2_with fail
  go_ret
  exact ⟨_, m, rfl, ⟨_, rfl, hmem⟩, hm1, hm2, hs', hb'⟩

theorem some10_any (σ : St) (n : Nat) (a : Option Addr) (len cap : Nat) (zs : List ByteArray) (w : World) (hs : Str σ w n) (hn : n ≤ 4611686018427387904)
    (hz : Sl RStr 1 (fun k => k ≠ σ.b) w a len zs) (h1 : 0 < len) (h2 : len ≤ 1000000) :
    Calls Tryz.prog 59 #[.pointer (some ⟨σ.b, 0, none⟩), .slice a len cap] w (StPost σ n 1 w (IsStr fun r => r ∈ zs ∧ r.size ≤ 1000000)) := by
  go_enter Tryz.func59, Tryz.ntmps59
  go_wp2_with fail
  refine (next_any σ n _ _ hs hn (by omega) (by omega)).mono ?_
  rintro e w' ⟨v, m, rfl, ⟨r, rfl, hr1, hr2⟩, hm1, hm2, hs', hb'⟩
  obtain ⟨i, rfl⟩ := Int.eq_ofNat_of_zero_le hr1
  have hl := hz.len
  obtain ⟨b0, off, ha0, hb0, hrow⟩ := (hz.keep RStr.ok hb').strs h1
  obtain ⟨hci, hzi⟩ := hrow i (by omega)
  have hmem : zs.getD i ByteArray.empty ∈ zs := by
    rw [List.getD_eq_getElem?_getD, List.getElem?_eq_getElem (by omega)]
    exact List.getElem_mem _
  generalize zs.getD i ByteArray.empty = zi at hci hmem hzi
  subst ha0
  clear hrow hz hs
  go_wp2_with fail
  go_ret
  exact ⟨_, m, rfl, ⟨_, rfl, hmem, hzi⟩, hm1, hm2, hs', hb'⟩
end Go.Proofs.YtgobnlgmbplggaaGreatDoor

/- The argument of a law: a slice of numbers that came in; a stream over it. -/
namespace Go.Proofs.YtgobnlgmbplggaaGreatDoor
open Go.RowKit

/-- What the walk is told of a slice of numbers that came in. -/
def IsRow (w : World) (a : Option Addr) (len cap : Nat) : Prop := len ≤ cap ∧ len ≤ 9223372036854775807 ∧ ∃ zs, Sl RInt 1 (fun k => k < w.heap.size) w a len zs
/-- A new stream over it. -/
theorem IsRow.start {w : World} {a : Option Addr} {len cap : Nat} (h : IsRow w a len cap) :
    Str ⟨w.heap.size, a, len, cap⟩ (w.alloc (.cells #[.slice a len cap, .int .i64 0] 25)) 0 := by
  obtain ⟨_, h1, zs, h2⟩ := h
  exact ⟨heap_at _ _ _ rfl, ⟨zs, h2.keep RInt.ok (Kept.alloc _ _ _)⟩, h1⟩

end Go.Proofs.YtgobnlgmbplggaaGreatDoor

/- What the frames of all laws of this seat share: the witness's world, the opening of the argument. -/
namespace Go.Proofs.YtgobnlgmbplggaaGreatDoor
open Go.ChangeShapes Go.WideShapes Go.ChangeAt Go.RowKit

theorem own : ownKnob Tryz.prog.godebug = none := by kernel_rfl
theorem laidOut : laidOutB Tryz.prog = true := by kernel_rfl

theorem isRow_of_reads {H : Type} {enc : TypeId × Value → H} {W : World} {a0 : Option Addr} {len0 cap0 : Nat} {d0 : DataW H} {p0 : List MemPlace}
    (h0 : DataW.Trod enc Tryz.prog W 0 (fun _ => true) true 22 (Value.slice a0 len0 cap0) d0 p0) : IsRow W a0 len0 cap0 := by
  obtain ⟨fuel, hf⟩ := h0
  rcases open_ints Tryz.underlying22 Tryz.underlying3 (by kernel_rfl) hf with ⟨hcs, _⟩ | ⟨x, l, c, zs, hcs, _, hl, hm, hz, _, hcell, hwz⟩
  · simp [Value.cells] at hcs
    obtain ⟨rfl, rfl, rfl⟩ := hcs
    exact ⟨Nat.le_refl _, by omega, [], Sl.nil _ _ _ _ _⟩
  · simp [Value.cells] at hcs
    obtain ⟨rfl, rfl, rfl⟩ := hcs
    unfold maxLen at hm
    refine ⟨hl, by omega, zs.take len0, ?_⟩
    by_cases hl0 : len0 = 0
    · subst hl0; exact Sl.nil _ _ _ _ _
    · obtain ⟨b, off, spot⟩ := x
      have hz' : zs.length = cap0 := by simpa using hz
      have hc := hcell 0 (by omega)
      have hspot : spot = none := by simpa [Addr.add] using World.cell?_spot hc
      subst hspot
      refine Sl.of_ints (by simp; omega) (World.block_lt_of_cell? W _ hc) (fun i hi => ?_)
      have hci := hcell i (by omega)
      have hadd : (⟨b, off, none⟩ : Addr).add i = ⟨b, off + i, none⟩ := by
        unfold Addr.add; split
        · rename_i h0; rw [h0, Nat.add_zero]
        · rfl
      rw [hadd] at hci
      rw [hci]
      simp [List.getD_eq_getElem?_getD, hi]

/-- A world for the witness: the two tables hold what they are listed with. -/
def setTab (c : Array Value) : Obj → Obj
  | .cells _ t frozen => .cells c t frozen
  | o => o
def tabFirst : Array Value := (Go.Pinned.utf8FirstZ.map (fun n : Nat => Value.int .u8 (n : Int))).toArray
def tabAccept : Array Value := (([128, 191, 160, 191, 128, 159, 144, 191, 128, 143, 0, 0, 0, 0, 0, 0, 0, 0, 0, 0, 0, 0, 0, 0, 0, 0, 0, 0, 0, 0, 0, 0] : List Int).map (Value.int .u8)).toArray
noncomputable def laidWorld (os : Os) : World :=
  { World.holding Tryz.prog os ⟨#[], #[], []⟩ with heap := ((World.holding Tryz.prog os ⟨#[], #[], []⟩).heap.modify 1 (setTab tabFirst)).modify 2 (setTab tabAccept) }
end Go.Proofs.YtgobnlgmbplggaaGreatDoor

/- Slices that a call gathers by append: what they read as. No program in sight. -/
namespace Go.Proofs.YtgobnlgmbplggaaGreatDoor
open Go.RowKit

/-- v is a slice of the call's own (its row lies in a block from B on), and reads as xs; its elements read through blocks that F names and that are not that row. -/
def Acc {α : Type} (R : Rel α) (sz : Nat) (T : TypeId) (F : Nat → Prop) (B : Nat) (w : World) (v : Value) (xs : List α) : Prop :=
  ∃ cells : List Value, w.ownsRow B T sz v xs.length cells ∧ ∀ (i : Nat) (h : i < xs.length), R (fun k => F k ∧ v.ownBlock ≠ some k) w ((cells.drop (i * sz)).take sz) xs[i]

section
variable {α : Type} {R : Rel α} {sz : Nat} {T : TypeId} {F : Nat → Prop} {B : Nat} {w w' : World} {v : Value} {xs : List α}

theorem Acc.nil (R : Rel α) (sz : Nat) (T : TypeId) (F : Nat → Prop) (B : Nat) (w : World) : Acc R sz T F B w (.slice none 0 0) [] :=
  ⟨[], World.ownsRow_nil w B T sz, fun i h => absurd h (by simp)⟩

theorem Acc.lt (h : Acc R sz T F B w v xs) : ∀ k, v.ownBlock = some k → B ≤ k ∧ k < w.heap.size := by
  obtain ⟨cells, ho, _⟩ := h
  exact ho.lt

theorem ownsRow_kept {G : Nat → Prop} {cells : List Value} {n : Nat} (h : w.ownsRow B T sz v n cells) (hk : Kept G w w') (hg : ∀ k, v.ownBlock = some k → G k) : w'.ownsRow B T sz v n cells := by
  refine ⟨h.1, ?_⟩
  rcases h.2 with hn | ⟨g, cap, cur, rfl, hb, hgg, rest⟩
  · exact .inl hn
  · exact .inr ⟨g, cap, cur, rfl, hb, hk.heap hgg (hg g rfl), rest⟩

theorem Acc.keep (ok : R.Ok) {G : Nat → Prop} (h : Acc R sz T F B w v xs) (hk : Kept G w w') (hF : ∀ k, F k → G k) (hg : ∀ k, v.ownBlock = some k → G k) : Acc R sz T F B w' v xs := by
  obtain ⟨cells, ho, he⟩ := h
  refine ⟨cells, ownsRow_kept ho hk hg, fun i hi => ?_⟩
  exact ok.keep (hk.mono fun k hk => hF k hk.1) (he i hi)
theorem Acc.keepAll (ok : R.Ok) (h : Acc R sz T F B w v xs) (hk : All w w') : Acc R sz T F B w' v xs := h.keep ok hk (fun _ _ => trivial) (fun _ _ => trivial)

theorem Acc.mono (ok : R.Ok) {G : Nat → Prop} (h : Acc R sz T F B w v xs) (hF : ∀ k, F k → G k) : Acc R sz T G B w v xs := by
  obtain ⟨cells, ho, he⟩ := h
  exact ⟨cells, ho, fun i hi => ok.mono (fun k hk => ⟨hF k hk.1, hk.2⟩) (he i hi)⟩

/-- It is a slice, and reads as a slice does. -/
theorem Acc.sl (ok : R.Ok) (hsz : 0 < sz) {G : Nat → Prop} (h : Acc R sz T F B w v xs) (hF : ∀ k, F k → G k) (hg : ∀ k, v.ownBlock = some k → G k) :
    ∃ a cap, v = .slice a xs.length cap ∧ Sl R sz G w a xs.length xs := by
  obtain ⟨cells, ho, he⟩ := h
  rcases ho.2 with ⟨rfl, hn⟩ | ⟨g, cap, cur, rfl, hb, hgg, hnc, hcm, hcs, htake⟩
  · have : xs = [] := List.eq_nil_of_length_eq_zero hn
    subst this
    exact ⟨none, 0, rfl, Sl.nil _ _ _ _ _⟩
  · refine ⟨_, cap, rfl, rfl, fun _ => ⟨g, 0, rfl, hg g rfl, fun i hi => ⟨(cells.drop (i * sz)).take sz, ?_, ?_, ?_⟩⟩⟩
    · have h1 := ho.1
      have h2 : (i + 1) * sz ≤ xs.length * sz := Nat.mul_le_mul_right _ hi
      rw [Nat.add_mul] at h2
      simp only [List.length_take, List.length_drop]
      omega
    · intro j hj
      simp only [List.length_take, List.length_drop] at hj
      have h3 : cells[i * sz + j]? = some ((cells.drop (i * sz)).take sz)[j] := by
        rw [List.getElem_take, List.getElem_drop]
        exact List.getElem?_eq_getElem _
      have h4 := ho.cells (g := g) rfl (i * sz + j) _ h3
      have hadd : (⟨g, 0, none⟩ : Addr).add (i * sz + j) = ⟨g, 0 + i * sz + j, none⟩ := by
        unfold Addr.add; split
        · rename_i h0; have h5 : 0 + i * sz + j = 0 := by omega
          rw [h5]
        · simp
      rw [← hadd]; exact h4
    · exact ok.mono (fun k hk => hF k hk.1) (he i hi)

/-- One element more. -/
theorem Acc.push (ok : R.Ok) {v' : Value} {cells vs : List Value} {y : α} (hsz : vs.length = sz)
    (ho : w.ownsRow B T sz v xs.length cells) (he : ∀ (i : Nat) (h : i < xs.length), R (fun k => F k ∧ v.ownBlock ≠ some k) w ((cells.drop (i * sz)).take sz) xs[i])
    (hy : R (fun k => F k ∧ v.ownBlock ≠ some k) w vs y)
    (ho' : w'.ownsRow B T sz v' (xs.length + 1) (cells ++ vs)) (hg : w.grownBy w' v.ownBlock) (hat : v'.ownBlock = v.ownBlock ∨ v'.ownBlock = some w.heap.size) :
    Acc R sz T F B w' v' (xs ++ [y]) := by
  have hk : Kept (fun k => F k ∧ v.ownBlock ≠ some k) w w' :=
    ⟨hg.os, hg.tape, hg.output, hg.size, fun k hk hf => hg.block k hk (fun e => hf.2 e.symm)⟩
  have turn : ∀ {us : List Value} {x : α}, R (fun k => F k ∧ v.ownBlock ≠ some k) w us x → R (fun k => F k ∧ v'.ownBlock ≠ some k) w' us x := by
    intro us x h
    have h1 := ok.live h
    have h2 : R (fun k => (F k ∧ v.ownBlock ≠ some k) ∧ k < w.heap.size) w' us x := ok.keep (hk.mono fun k hk => hk.1) h1
    refine ok.mono (fun k hk => ⟨hk.1.1, ?_⟩) h2
    rcases hat with e | e
    · rw [e]; exact hk.1.2
    · rw [e]; intro e2; cases e2; exact absurd hk.2 (by omega)
  have hcl := ho.1
  refine ⟨cells ++ vs, by simpa using ho', fun i hi => ?_⟩
  simp only [List.length_append, List.length_cons, List.length_nil] at hi
  by_cases hlt : i < xs.length
  · have h2 : (i + 1) * sz ≤ xs.length * sz := Nat.mul_le_mul_right _ hlt
    rw [Nat.add_mul] at h2
    have e1 : ((cells ++ vs).drop (i * sz)).take sz = (cells.drop (i * sz)).take sz := by
      rw [List.drop_append_of_le_length (by omega), List.take_append_of_le_length (by simp; omega)]
    rw [e1, List.getElem_append_left hlt]
    exact turn (he i hlt)
  · have e0 : i = xs.length := by omega
    subst e0
    have e1 : ((cells ++ vs).drop (xs.length * sz)).take sz = vs := by
      rw [← hcl, List.drop_left, List.take_of_length_le (by omega)]
    rw [e1]
    simpa using turn hy
end

/-- The row of a slice of numbers of the call's own, once it has an element. -/
theorem Acc.ints {F : Nat → Prop} {B : Nat} {w : World} {v : Value} {T : TypeId} {zs : List Int} (h : Acc RInt 1 T F B w v zs) (hl : 0 < zs.length) :
    ∃ g cap, v = .slice (some ⟨g, 0, none⟩) zs.length cap ∧ B ≤ g ∧ (∀ i, i < zs.length → w.cell? ⟨g, i, none⟩ = some (.int .i64 (zs.getD i 0))) ∧ (∀ i, w.frozen? ⟨g, i, none⟩ = false) := by
  obtain ⟨cells, ho, he⟩ := h
  rcases ho.2 with ⟨rfl, hn⟩ | ⟨g, cap, cur, rfl, hb, hgg, hnc, hcm, hcs, htake⟩
  · omega
  · refine ⟨g, cap, rfl, hb, fun i hi => ?_, fun i => ?_⟩
    · have h1 : (cells.drop (i * 1)).take 1 = [Value.int .i64 zs[i]] := he i hi
      have h2 : cells[i]? = some (Value.int .i64 zs[i]) := by
        have := congrArg (fun l => l[0]?) h1
        simpa [List.getElem?_take, List.getElem?_drop] using this
      have h3 := ho.cells (g := g) rfl i _ h2
      have hadd : (⟨g, 0, none⟩ : Addr).add i = ⟨g, i, none⟩ := by
        unfold Addr.add; split
        · rename_i h0; rw [h0]
        · simp
      rw [hadd] at h3
      rw [h3]; simp [List.getD_eq_getElem?_getD, List.getElem?_eq_getElem hi]
    · simp only [World.frozen?, hgg]; simp
theorem Acc.form {α : Type} {R : Rel α} {sz : Nat} {T : TypeId} {F : Nat → Prop} {B : Nat} {w : World} {v : Value} {xs : List α} (h : Acc R sz T F B w v xs) : ∃ a cap, v = .slice a xs.length cap ∧ xs.length ≤ cap := by
  obtain ⟨cells, ho, he⟩ := h
  rcases ho.2 with ⟨hv, hn⟩ | ⟨g, cap, cur, hv, hg, _, hle, _⟩
  · exact ⟨none, 0, by rw [hv, hn], by omega⟩
  · exact ⟨_, cap, hv, hle⟩
/-- append of one element that was written out just before. -/
theorem wp_append1 {α : Type} {R : Rel α} (ok : R.Ok) {P : Program} (w : World) {ops : Array Oper} {rest : List Oper} {o : Oper} {a : Act} {Q : Exit → Act → World → Prop} (hgd : o.guard = none) (s x : Operand) (t : TypeId)
    (ho : o.op = .call { callee := .builtin .append, args := #[s, x], argTypes := #[t, t] })
    (B : Nat) (e : TypeId) (z : Value) (size bytes : Nat) (ht : P.underlying t = some (.slice e)) (hi : (P.info? e).map (fun i => (i.zero, i.size, i.bytes)) = some (some z, size, bytes))
    (hzs : z.cells.size = size) (hsz : 0 < size) (F : Nat → Prop)
    (v : Value) (xs : List α) (hs : a.eval s = v) (hacc : Acc R size e F B w v xs)
    (ad : Addr) (c : Nat) (vs : List Value) (hx : a.eval x = .slice (some ad) 1 c) (hl : vs.length = size) (hnews : ∀ j u, vs[j]? = some u → w.cell? (ad.add j) = some u) (h1 : ∀ u ∈ vs, u.oneCell' = true)
    (y : α) (hy : R (fun k => F k ∧ v.ownBlock ≠ some k) w vs y)
    (hb1 : xs.length + 1 ≤ 1000000000) (hb2 : bytes ≤ 100000) (hbase : B ≤ w.heap.size)
    (h : ∀ p' c' w', Acc R size e F B w' (.slice p' (xs.length + 1) c') (xs ++ [y]) → w.grownBy w' v.ownBlock → ((Value.slice p' (xs.length + 1) c').ownBlock = v.ownBlock ∨ (Value.slice p' (xs.length + 1) c').ownBlock = some w.heap.size) → wpList P ops Q rest (a.put o.dst (.slice p' (xs.length + 1) c')) w') :
    wpList P ops Q (o :: rest) a w := by
  obtain ⟨i0, hi, hz0, hz1, hz2⟩ := info_parts hi
  obtain ⟨cells, hown, he⟩ := hacc
  refine wpList_append_own_at w hgd s x t ho B e i0 z size bytes ht hi hz0 hz1 hz2 hzs hsz v xs.length cells hs hown ad 1 c vs hx (by omega) hnews h1 (by unfold maxLen; omega) ?_ hbase ?_
  · calc (xs.length + 1) * bytes ≤ 1000000000 * 100000 := Nat.mul_le_mul hb1 hb2
      _ ≤ 140737488355328 := by decide
  · intro v' w' ho' hg _ hat
    have hp := Acc.push ok hl hown he hy ho' hg hat
    obtain ⟨p', c', rfl, _⟩ := hp.form
    simp only [List.length_append, List.length_cons, List.length_nil, Nat.zero_add] at *
    exact h p' c' w' hp hg hat

/-- The same at a step of a region that draws its order. -/
theorem step_append1 {α : Type} {R : Rel α} (ok : R.Ok) {P : Program} (w : World) {ops : Array Oper} {o : Oper} {a : Act} {K : Act → World → Prop} {Q : Exit → Act → World → Prop} {E : Prop} (hgd : o.guard = none) (s x : Operand) (t : TypeId)
    (ho : o.op = .call { callee := .builtin .append, args := #[s, x], argTypes := #[t, t] })
    (B : Nat) (e : TypeId) (z : Value) (size bytes : Nat) (ht : P.underlying t = some (.slice e)) (hi : (P.info? e).map (fun i => (i.zero, i.size, i.bytes)) = some (some z, size, bytes))
    (hzs : z.cells.size = size) (hsz : 0 < size) (F : Nat → Prop)
    (v : Value) (xs : List α) (hs : a.eval s = v) (hacc : Acc R size e F B w v xs)
    (ad : Addr) (c : Nat) (vs : List Value) (hx : a.eval x = .slice (some ad) 1 c) (hl : vs.length = size) (hnews : ∀ j u, vs[j]? = some u → w.cell? (ad.add j) = some u) (h1 : ∀ u ∈ vs, u.oneCell' = true)
    (y : α) (hy : R (fun k => F k ∧ v.ownBlock ≠ some k) w vs y)
    (hb1 : xs.length + 1 ≤ 1000000000) (hb2 : bytes ≤ 100000) (hbase : B ≤ w.heap.size)
    (h : ∀ p' c' w', Acc R size e F B w' (.slice p' (xs.length + 1) c') (xs ++ [y]) → w.grownBy w' v.ownBlock → ((Value.slice p' (xs.length + 1) c').ownBlock = v.ownBlock ∨ (Value.slice p' (xs.length + 1) c').ownBlock = some w.heap.size) → K (a.put o.dst (.slice p' (xs.length + 1) c')) w') :
    if Region.wanted o (yielded ops a.tmps) = true then Oper.wp P o a w K Q else E := by
  have hw : Region.wanted o (yielded ops a.tmps) = true := by simp [Region.wanted, hgd]
  rw [if_pos hw]
  obtain ⟨i0, hi, hz0, hz1, hz2⟩ := info_parts hi
  obtain ⟨cells, hown, he⟩ := hacc
  have hbytes : (xs.length + 1) * bytes ≤ 140737488355328 := by
    calc (xs.length + 1) * bytes ≤ 1000000000 * 100000 := Nat.mul_le_mul hb1 hb2
      _ ≤ 140737488355328 := by decide
  obtain ⟨v', w', hr, h2, h3, h4, h5⟩ := run_append_own_at (P := P) w B t o.type e i0 z size bytes ht hi hz0 hz1 hz2 hzs hsz v xs.length cells hown ad 1 c vs (by omega) hnews h1 (by unfold maxLen; omega) hbytes hbase
  unfold Oper.wp execOp
  simp only [ho, resolve, invoke, builtin, Sem.run_bind, Sem.run_pure, Result.andThen_ok, List.map_toArray, List.map_cons, List.map_nil, hs, hx, hr]
  have hp := Acc.push ok hl hown he hy h2 h3 h5
  obtain ⟨p', c', rfl, _⟩ := hp.form
  simp only [List.length_append, List.length_cons, List.length_nil, Nat.zero_add] at *
  exact h p' c' w' hp h3 h5

/-- The first k elements of a slice of the call's own. -/
theorem Acc.take {α : Type} {R : Rel α} {sz : Nat} {T : TypeId} {F : Nat → Prop} {B : Nat} {w : World} {p : Option Addr} {n cap : Nat} {xs : List α} (h : Acc R sz T F B w (.slice p n cap) xs) {k : Nat} (hk : k ≤ xs.length) : Acc R sz T F B w (.slice p k cap) (xs.take k) := by
  obtain ⟨cells, ho, he⟩ := h
  have hcl := ho.1
  have hkl : (xs.take k).length = k := by simp; omega
  have hmul : k * sz ≤ xs.length * sz := Nat.mul_le_mul_right _ hk
  refine ⟨cells.take (k * sz), ?_, fun i hi => ?_⟩
  · rw [hkl]
    refine ⟨by simp; omega, ?_⟩
    rcases ho.2 with ⟨h0, hn⟩ | ⟨g, cap', cur, hv, hb, hgg, hnc, hcm, hcs, htake⟩
    · cases h0
      left; constructor
      · congr 1; omega
      · omega
    · cases hv
      refine .inr ⟨g, cap, cur, rfl, hb, hgg, by omega, hcm, hcs, ?_⟩
      rw [← htake, List.take_take, Nat.min_eq_left hmul]
  · rw [hkl] at hi
    have h2 : (i + 1) * sz ≤ k * sz := Nat.mul_le_mul_right _ hi
    rw [Nat.add_mul] at h2
    have e1 : ((cells.take (k * sz)).drop (i * sz)).take sz = (cells.drop (i * sz)).take sz := by
      rw [List.drop_take, List.take_take, Nat.min_eq_left (by omega)]
    rw [e1, List.getElem_take]
    have h3 := he i (by omega)
    have e2 : (Value.slice p n cap).ownBlock = (Value.slice p k cap).ownBlock := by cases p <;> rfl
    rw [e2] at h3
    exact h3
theorem Acc.live {α : Type} {R : Rel α} (ok : R.Ok) {sz : Nat} {T : TypeId} {F : Nat → Prop} {B : Nat} {w : World} {v : Value} {xs : List α} (h : Acc R sz T F B w v xs) : Acc R sz T (fun k => F k ∧ k < w.heap.size) B w v xs := by
  obtain ⟨cells, ho, he⟩ := h
  exact ⟨cells, ho, fun i hi => ok.mono (fun k hk => ⟨⟨hk.1.1, hk.2⟩, hk.1.2⟩) (ok.live (he i hi))⟩
theorem Acc.base {α : Type} {R : Rel α} {sz : Nat} {T : TypeId} {F : Nat → Prop} {B B' : Nat} {w : World} {v : Value} {xs : List α} (h : Acc R sz T F B w v xs) (hb : B' ≤ B) : Acc R sz T F B' w v xs := by
  obtain ⟨cells, ho, he⟩ := h
  refine ⟨cells, ⟨ho.1, ?_⟩, he⟩
  rcases ho.2 with hn | ⟨g, cap, cur, hv, hg, rest⟩
  · exact .inl hn
  · exact .inr ⟨g, cap, cur, hv, by omega, rest⟩
end Go.Proofs.YtgobnlgmbplggaaGreatDoor
