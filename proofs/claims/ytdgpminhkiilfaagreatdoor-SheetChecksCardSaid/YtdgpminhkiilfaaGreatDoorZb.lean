/- Contracts of the stream that makes inputs: Below, Next, Range, Flip, Pick, some10, odd10. -/
import Derived.Test.YtdgpminhkiilfaaGreatDoorProg
import Derived.Test.YtdgpminhkiilfaaGreatDoorZa
namespace Go.Proofs.YtdgpminhkiilfaaGreatDoor
open Go.RowKit
theorem ret_int {k : IntKind} {a b : Int} (h : a = b) : Ending.returned (.int k a) = .returned (.int k b) := by rw [h]

theorem tmod_low (x n : Int) (hn : 1 ≤ n) : -n < x.tmod n ∧ x.tmod n < n :=
  ⟨Int.lt_tmod_of_pos x (show 0 < n by omega), Int.tmod_lt_of_pos x (show 0 < n by omega)⟩

/-- Below of any number is within its range. -/
def BelowPost (n : Int) (w : World) (e : Ending) (w' : World) : Prop := ∃ r : Int, e = .returned (.int .i64 r) ∧ 0 ≤ r ∧ r < n ∧ w = w'
theorem below_any (x n : Int) (w : World) (h1 : 1 ≤ n) (h2 : n ≤ 9223372036854775807) :
    Calls Tryz.prog 84 #[.int .i64 x, .int .i64 n] w (BelowPost n w) := by
  obtain ⟨ht1, ht2⟩ := tmod_low x n h1
  go_enter Tryz.func84, Tryz.ntmps84
  go_wp2
  · go_ret
    exact ⟨_, rfl, by omega, by omega, rfl⟩
  · go_ret
    exact ⟨_, rfl, by omega, by omega, rfl⟩

/-- Where a stream lies, and the numbers that it has. -/
structure St where
  b : Nat
  a0 : Option Addr
  len : Nat
  cap : Nat

/-- The stream σ in w has handed out n numbers. -/
structure Str (σ : St) (w : World) (n : Nat) : Prop where
  blk : w.heap[σ.b]? = some (.cells #[.slice σ.a0 σ.len σ.cap, .int .i64 n] 25 (0, 0))
  row : ∃ zs, Sl RInt 1 (fun k => k < σ.b) w σ.a0 σ.len zs
  lb : σ.len ≤ 9223372036854775807
theorem Str.s0 {σ : St} {w : World} {n : Nat} (h : Str σ w n) : w.cell? ⟨σ.b, 0, none⟩ = some (.slice σ.a0 σ.len σ.cap) := by
  simp [World.cell?, h.blk]
theorem Str.s1 {σ : St} {w : World} {n : Nat} (h : Str σ w n) : w.cell? ⟨σ.b, 1, none⟩ = some (.int .i64 n) := by
  simp [World.cell?, h.blk]
theorem Str.fz {σ : St} {w : World} {n : Nat} (h : Str σ w n) (i : Nat) : w.frozen? ⟨σ.b, i, none⟩ = false := by
  simp [World.frozen?, h.blk]
theorem Str.lt {σ : St} {w : World} {n : Nat} (h : Str σ w n) : σ.b < w.heap.size := lt_of_cell h.s0
theorem Str.kept {σ : St} {F : Nat → Prop} {w w' : World} {n : Nat} (h : Str σ w n) (k : Kept F w w') (hF : ∀ k, k ≤ σ.b → F k) : Str σ w' n := by
  refine ⟨k.heap h.blk (hF _ (Nat.le_refl _)), ?_, h.lb⟩
  obtain ⟨zs, hz⟩ := h.row
  exact ⟨zs, hz.keep RInt.ok (k.mono fun i hi => hF i (Nat.le_of_lt hi))⟩
theorem Str.keep {σ : St} {w w' : World} {n : Nat} (h : Str σ w n) (k : All w w') : Str σ w' n := h.kept k fun _ _ => trivial
theorem Str.set {σ : St} {w : World} {n : Nat} (h : Str σ w n) (p : Addr) (u : Value) (hp : σ.b < p.block) : Str σ (w.setCell p u) n :=
  h.kept (Kept.setCell (F := fun k => k ≤ σ.b) w p u (by omega)) fun _ h => h
theorem heap_setCell_at (w : World) (b i : Nat) (u : Value) (c : Array Value) (t : TypeId) (fz : Nat × Nat) (h : w.heap[b]? = some (.cells c t fz)) :
    (w.setCell ⟨b, i, none⟩ u).heap[b]? = some (.cells (c.setIfInBounds i u) t fz) := by
  simp [World.setCell, Array.getElem?_modify, h]
theorem Str.step {σ : St} {w : World} {n : Nat} (h : Str σ w n) : Str σ (w.setCell ⟨σ.b, 1, none⟩ (.int .i64 ((n : Int) + 1))) (n + 1) := by
  refine ⟨?_, ?_, h.lb⟩
  · rw [heap_setCell_at _ _ _ _ _ _ _ h.blk]
    simp
  · obtain ⟨zs, hz⟩ := h.row
    exact ⟨zs, hz.keep RInt.ok (Kept.setCell _ _ _ (by simp))⟩

/-- What a method of the stream leaves: a value of which Q holds, the stream after at most c more numbers, and all else as it was. -/
def StPost (σ : St) (n c : Nat) (w : World) (Q : Value → World → Prop) (e : Ending) (w' : World) : Prop :=
  ∃ v m, e = .returned v ∧ Q v w' ∧ n ≤ m ∧ m ≤ n + c ∧ Str σ w' m ∧ But σ.b w w'

def IsNum (P : Int → Prop) (v : Value) (_ : World) : Prop := ∃ r : Int, v = .int .i64 r ∧ P r
def IsBool (v : Value) (_ : World) : Prop := ∃ r : Bool, v = .bool r
def IsStr (P : ByteArray → Prop) (v : Value) (_ : World) : Prop := ∃ r : ByteArray, v = .string r ∧ P r

set_option maxHeartbeats 400000 in
theorem next_any (σ : St) (n : Nat) (m : Int) (w : World) (hs : Str σ w n) (hn : n ≤ 4611686018427387904) (h1 : 1 ≤ m) (h2 : m ≤ 9223372036854775807) :
    Calls Tryz.prog 37 #[.pointer (some ⟨σ.b, 0, none⟩), .int .i64 m] w (StPost σ n 1 w (IsNum fun r => 0 ≤ r ∧ r < m)) := by
  have s0 := hs.s0
  have s1 := hs.s1
  have fz := hs.fz 1
  have hlb := hs.lb
  have hstep := hs.step
  have hbut : But σ.b w (w.setCell ⟨σ.b, 1, none⟩ (.int .i64 ((n : Int) + 1))) := Kept.setCell _ _ _ (by simp)
  have HS := Lib.hid hstep
  have HB := Lib.hid hbut
  clear hstep hbut
  obtain ⟨zs, hz⟩ := hs.row
  obtain ⟨b, a0, len, cap⟩ := σ
  dsimp only at *
  by_cases hlen : len = 0
  · subst hlen
    clear hz hs
    go_enter Tryz.func37, Tryz.ntmps37
    go_wp2_with fail
    refine (below_any _ _ _ h1 h2).mono ?_
    rintro e w' ⟨r, rfl, hr1, hr2, rfl⟩
    go_wp2_with fail
    go_ret
    exact ⟨_, n + 1, rfl, ⟨r, rfl, hr1, hr2⟩, by omega, by omega, HS.out, HB.out⟩
  · obtain ⟨b0, off, ha0, hb0, hrow⟩ := hz.ints (by omega)
    subst ha0
    have hl0 : ((len : Int) == 0) = false := by simp; omega
    have hm1 : 0 ≤ (n : Int) % (len : Int) := Int.emod_nonneg _ (by omega)
    have hm2 : (n : Int) % (len : Int) < len := Int.emod_lt_of_pos _ (by omega)
    have hci := hrow (n % len) (Nat.mod_lt _ (by omega))
    generalize zs.getD (n % len) 0 = zi at hci
    clear hrow hz hs
    go_enter Tryz.func37, Tryz.ntmps37
    go_wp2_with fail
    go_quiet (fail)
    go_wp2_with fail
    go_quiet (fail)
    go_wp2_with fail
    refine (below_any _ _ _ (by omega) (by omega)).mono ?_
    rintro e w' ⟨r1, rfl, hr1, hr2, rfl⟩
    go_wp2_with fail
    refine (below_any _ _ _ h1 h2).mono ?_
    rintro e w' ⟨r, rfl, hr3, hr4, rfl⟩
    go_wp2_with fail
    go_ret
    exact ⟨_, n + 1, rfl, ⟨r, rfl, hr3, hr4⟩, by omega, by omega, HS.out.keep (Kept.drewN _ _ _), HB.out.then_drewN _⟩

theorem range_any (σ : St) (n : Nat) (lo hi : Int) (w : World) (hs : Str σ w n) (hn : n ≤ 4611686018427387904) (h1 : lo ≤ hi) (h2 : -1000000000000 ≤ lo) (h3 : hi ≤ 1000000000000) :
    Calls Tryz.prog 19 #[.pointer (some ⟨σ.b, 0, none⟩), .int .i64 lo, .int .i64 hi] w (StPost σ n 1 w (IsNum fun r => lo ≤ r ∧ r ≤ hi)) := by
  have hd : decide (hi < lo) = false := by simp; omega
  go_enter Tryz.func19, Tryz.ntmps19
  go_wp2_with fail
  refine (next_any σ n _ _ hs hn (by omega) (by omega)).mono ?_
  rintro e w' ⟨v, m, rfl, ⟨r, rfl, hr1, hr2⟩, hm1, hm2, hs', hb'⟩
  go_wp2_with fail
  go_ret
  exact ⟨_, m, rfl, ⟨_, rfl, by omega, by omega⟩, hm1, hm2, hs', hb'⟩

theorem flip_any (σ : St) (n : Nat) (k : Int) (w : World) (hs : Str σ w n) (hn : n ≤ 4611686018427387904) (h1 : 1 ≤ k) (h2 : k ≤ 1000000000000) :
    Calls Tryz.prog 25 #[.pointer (some ⟨σ.b, 0, none⟩), .int .i64 k] w (StPost σ n 1 w IsBool) := by
  go_enter Tryz.func25, Tryz.ntmps25
  go_wp2_with fail
  refine (next_any σ n _ _ hs hn (by omega) (by omega)).mono ?_
  rintro e w' ⟨v, m, rfl, ⟨r, rfl, hr1, hr2⟩, hm1, hm2, hs', hb'⟩
  go_wp2_with fail
  go_ret
  exact ⟨_, m, rfl, ⟨_, rfl⟩, hm1, hm2, hs', hb'⟩

theorem pick_any (σ : St) (n : Nat) (a : Option Addr) (len cap : Nat) (zs : List Int) (w : World) (hs : Str σ w n) (hn : n ≤ 4611686018427387904)
    (hz : Sl RInt 1 (fun k => k ≠ σ.b) w a len zs) (h1 : 0 < len) (h2 : len ≤ 1000000) :
    Calls Tryz.prog 24 #[.pointer (some ⟨σ.b, 0, none⟩), .slice a len cap] w (StPost σ n 1 w (IsNum fun r => r ∈ zs)) := by
  go_enter Tryz.func24, Tryz.ntmps24
  go_wp2_with fail
  refine (next_any σ n _ _ hs hn (by omega) (by omega)).mono ?_
  rintro e w' ⟨v, m, rfl, ⟨r, rfl, hr1, hr2⟩, hm1, hm2, hs', hb'⟩
  obtain ⟨i, rfl⟩ := Int.eq_ofNat_of_zero_le hr1
  have hl := hz.len
  obtain ⟨b0, off, ha0, hb0, hrow⟩ := (hz.keep RInt.ok hb').ints h1
  have hci := hrow i (by omega)
  have hmem : zs.getD i 0 ∈ zs := by
    rw [List.getD_eq_getElem?_getD, List.getElem?_eq_getElem (by omega)]
    exact List.getElem_mem _
  generalize zs.getD i 0 = zi at hci hmem
  subst ha0
  clear hrow hz hs
  go_wp2_with fail
  go_ret
  exact ⟨_, m, rfl, ⟨_, rfl, hmem⟩, hm1, hm2, hs', hb'⟩

theorem some10_any (σ : St) (n : Nat) (a : Option Addr) (len cap : Nat) (zs : List ByteArray) (w : World) (hs : Str σ w n) (hn : n ≤ 4611686018427387904)
    (hz : Sl RStr 1 (fun k => k ≠ σ.b) w a len zs) (h1 : 0 < len) (h2 : len ≤ 1000000) :
    Calls Tryz.prog 38 #[.pointer (some ⟨σ.b, 0, none⟩), .slice a len cap] w (StPost σ n 1 w (IsStr fun r => r ∈ zs ∧ r.size ≤ 1000000)) := by
  go_enter Tryz.func38, Tryz.ntmps38
  go_wp2_with fail
  refine (next_any σ n _ _ hs hn (by omega) (by omega)).mono ?_
  rintro e w' ⟨v, m, rfl, ⟨r, rfl, hr1, hr2⟩, hm1, hm2, hs', hb'⟩
  obtain ⟨i, rfl⟩ := Int.eq_ofNat_of_zero_le hr1
  have hl := hz.len
  obtain ⟨b0, off, ha0, hb0, hrow⟩ := (hz.keep RStr.ok hb').strs h1
  obtain ⟨hci, hzi⟩ := hrow i (by omega)
  have hmem : zs.getD i ByteArray.empty ∈ zs := by
    rw [List.getD_eq_getElem?_getD, List.getElem?_eq_getElem (by omega)]
    exact List.getElem_mem _
  generalize zs.getD i ByteArray.empty = zi at hci hmem hzi
  subst ha0
  clear hrow hz hs
  go_wp2_with fail
  go_ret
  exact ⟨_, m, rfl, ⟨_, rfl, hmem, hzi⟩, hm1, hm2, hs', hb'⟩
end Go.Proofs.YtdgpminhkiilfaaGreatDoor
