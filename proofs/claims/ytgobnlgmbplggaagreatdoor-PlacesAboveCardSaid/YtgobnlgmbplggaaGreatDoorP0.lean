/- Heaps whose blocks are well-typed: what loads, stores, new blocks and appends leave. No program in sight. -/
import Derived.Test.YtgobnlgmbplggaaGreatDoorZd
import Derived.Test.YtgobnlgmbplggaaGreatDoorYa
import Derived.Deep.Upon
import Derived.Test.YtgobnlgmbplggaaGreatDoorWj
namespace Go.Proofs.YtgobnlgmbplggaaGreatDoor
open Go.RowKit

/-- What a cell may hold: a string, a number, a number between two, a truth, a slice of a kind. -/
inductive Fd where
  | s
  | i
  | r (lo hi : Int)
  | b
  | sl (k : Nat)
/-- Kinds of elements: their cells, the type of their blocks, how long strings may be. -/
structure Kinds where
  fds : Nat → List Fd
  ty : Nat → TypeId
  smax : Nat
def Kinds.sz (Θ : Kinds) (k : Nat) : Nat := (Θ.fds k).length
/-- A value is right for a cell; K tells the blocks that are known, their kinds and how many elements they have; N bounds the lengths of slices. -/
def GoodV (Θ : Kinds) (K : Nat → Nat → Nat → Prop) (N : Nat → Nat) : Fd → Value → Prop
  | .s, v => ∃ s : ByteArray, v = .string s ∧ s.size ≤ Θ.smax
  | .i, v => ∃ z : Int, v = .int .i64 z ∧ -2000000000000 ≤ z ∧ z ≤ 2000000000000
  | .r lo hi, v => ∃ z : Int, v = .int .i64 z ∧ lo ≤ z ∧ z ≤ hi
  | .b, v => ∃ z : Bool, v = .bool z
  | .sl k, v => (∃ a, v = .slice a 0 0) ∨ ∃ g n cap, v = .slice (some ⟨g, 0, none⟩) n cap ∧ K g k cap ∧ n ≤ cap ∧ n ≤ N k
theorem GoodV.mono {Θ : Kinds} {K K' : Nat → Nat → Nat → Prop} {N N' : Nat → Nat} (hK : ∀ b k m, K b k m → K' b k m) (hN : ∀ k, N k ≤ N' k) : ∀ {f : Fd} {v : Value}, GoodV Θ K N f v → GoodV Θ K' N' f v
  | .s, _, h => h
  | .i, _, h => h
  | .r _ _, _, h => h
  | .b, _, h => h
  | .sl k, _, h => h.imp id fun ⟨g, n, cap, h1, h2, h3, h4⟩ => ⟨g, n, cap, h1, hK _ _ _ h2, h3, Nat.le_trans h4 (hN k)⟩
/-- The cells of a block of a kind are right. -/
def Cells (Θ : Kinds) (K : Nat → Nat → Nat → Prop) (N : Nat → Nat) (k : Nat) (c : Array Value) : Prop := ∀ (i : Nat) (v : Value), c[i]? = some v → ∃ f, (Θ.fds k)[i % Θ.sz k]? = some f ∧ GoodV Θ K N f v
/-- All known blocks are right. -/
structure WT (Θ : Kinds) (B : Nat) (N : Nat → Nat) (K : Nat → Nat → Nat → Prop) (w : World) : Prop where
  low : ∀ b k m, K b k m → B ≤ b
  pos : ∀ b k m, K b k m → 0 < Θ.sz k
  ok : ∀ b k m, K b k m → ∃ c, w.heap[b]? = some (.cells c (Θ.ty k) (0, 0)) ∧ c.size = m * Θ.sz k ∧ Cells Θ K N k c
/-- Block b is of kind k, of m elements, and right all through; so is what it refers to. -/
def TB (Θ : Kinds) (B : Nat) (N : Nat → Nat) (w : World) (b k m : Nat) : Prop := ∃ K, WT Θ B N K w ∧ K b k m
section
variable {Θ : Kinds} {B : Nat} {N N' N'' : Nat → Nat} {w w' w'' : World} {b k m : Nat} {f : Fd} {v : Value}
theorem TB.low (h : TB Θ B N w b k m) : B ≤ b := by obtain ⟨K, h1, h2⟩ := h; exact h1.low _ _ _ h2
theorem TB.pos (h : TB Θ B N w b k m) : 0 < Θ.sz k := by obtain ⟨K, h1, h2⟩ := h; exact h1.pos _ _ _ h2
theorem TB.ok (h : TB Θ B N w b k m) : ∃ c, w.heap[b]? = some (.cells c (Θ.ty k) (0, 0)) ∧ c.size = m * Θ.sz k ∧ Cells Θ (TB Θ B N w) N k c := by
  obtain ⟨K, h1, h2⟩ := h
  obtain ⟨c, h3, h4, h5⟩ := h1.ok _ _ _ h2
  refine ⟨c, h3, h4, fun i v hv => ?_⟩
  obtain ⟨f, h6, h7⟩ := h5 i v hv
  exact ⟨f, h6, h7.mono (fun b k m h => ⟨K, h1, h⟩) (fun _ => Nat.le_refl _)⟩
theorem WT.all (Θ : Kinds) (B : Nat) (N : Nat → Nat) (w : World) : WT Θ B N (TB Θ B N w) w := ⟨fun _ _ _ h => h.low, fun _ _ _ h => h.pos, fun _ _ _ h => h.ok⟩
/-- A value is right for a cell in w. -/
def Gd (Θ : Kinds) (B : Nat) (N : Nat → Nat) (w : World) (f : Fd) (v : Value) : Prop := GoodV Θ (TB Θ B N w) N f v
/-- What is known of w is known of w'. -/
structure Goes (Θ : Kinds) (B : Nat) (N : Nat → Nat) (w : World) (N' : Nat → Nat) (w' : World) : Prop where
  le : ∀ k, N k ≤ N' k
  tb : ∀ b k m, TB Θ B N w b k m → TB Θ B N' w' b k m
theorem Goes.refl (Θ : Kinds) (B : Nat) (N : Nat → Nat) (w : World) : Goes Θ B N w N w := ⟨fun _ => Nat.le_refl _, fun _ _ _ h => h⟩
theorem Goes.trans (h : Goes Θ B N w N' w') (h2 : Goes Θ B N' w' N'' w'') : Goes Θ B N w N'' w'' := ⟨fun k => Nat.le_trans (h.le k) (h2.le k), fun b k m hb => h2.tb b k m (h.tb b k m hb)⟩
theorem Gd.goes (h : Gd Θ B N w f v) (hg : Goes Θ B N w N' w') : Gd Θ B N' w' f v := GoodV.mono hg.tb hg.le h
theorem Goes.up (hN : ∀ k, N k ≤ N' k) : Goes Θ B N w N' w := by
  refine ⟨hN, fun b k m h => ?_⟩
  obtain ⟨K, h1, h2⟩ := h
  refine ⟨K, ⟨h1.low, h1.pos, fun b k m h => ?_⟩, h2⟩
  obtain ⟨c, h3, h4, h5⟩ := h1.ok b k m h
  refine ⟨c, h3, h4, fun i v hv => ?_⟩
  obtain ⟨f, h6, h7⟩ := h5 i v hv
  exact ⟨f, h6, h7.mono (fun _ _ _ h => h) hN⟩
theorem Goes.kept {F : Nat → Prop} (hk : Kept F w w') (hF : ∀ b k m, TB Θ B N w b k m → F b) : Goes Θ B N w N w' :=
  ⟨fun _ => Nat.le_refl _, fun b k m h => ⟨TB Θ B N w, ⟨fun _ _ _ h => h.low, fun _ _ _ h => h.pos, fun b k m h => by
    obtain ⟨c, h3, h4, h5⟩ := h.ok
    exact ⟨c, hk.heap h3 (hF b k m h), h4, h5⟩⟩, h⟩⟩
theorem Goes.all (hk : All w w') : Goes Θ B N w N w' := Goes.kept hk fun _ _ _ _ => trivial
theorem Goes.but {s : Nat} (hk : But s w w') (hs : s < B) : Goes Θ B N w N w' := Goes.kept hk fun b k m h e => by have := h.low; omega
/-- The cell of an element of a known block. -/
theorem TB.cell (h : TB Θ B N w b k m) {i j : Nat} (hi : i < m) {f : Fd} (hf : (Θ.fds k)[j]? = some f) : ∃ v, w.cell? ⟨b, i * Θ.sz k + j, none⟩ = some v ∧ Gd Θ B N w f v := by
  obtain ⟨c, h3, h4, h5⟩ := h.ok
  have hj : j < Θ.sz k := (List.getElem?_eq_some_iff.1 hf).1
  have hlt : i * Θ.sz k + j < c.size := by
    rw [h4]
    have : (i + 1) * Θ.sz k ≤ m * Θ.sz k := Nat.mul_le_mul_right _ hi
    rw [Nat.add_mul] at this
    omega
  have hc : c[i * Θ.sz k + j]? = some c[i * Θ.sz k + j] := Array.getElem?_eq_getElem hlt
  obtain ⟨f', h6, h7⟩ := h5 _ _ hc
  rw [Nat.mul_comm, Nat.mul_add_mod, Nat.mod_eq_of_lt hj] at h6
  rw [h6] at hf
  cases hf
  exact ⟨_, cell_at h3 hc, h7⟩
theorem TB.fz (h : TB Θ B N w b k m) (i : Nat) : w.frozen? ⟨b, i, none⟩ = false := by
  obtain ⟨c, h3, -, -⟩ := h.ok
  exact frozen_at h3
theorem TB.lt (h : TB Θ B N w b k m) : b < w.heap.size := by
  obtain ⟨c, h3, -, -⟩ := h.ok
  exact (Array.getElem?_eq_some_iff.1 h3).1
/-- A block with right cells is known. -/
theorem TB.new {c : Array Value} (hb : w.heap[b]? = some (.cells c (Θ.ty k) (0, 0))) (hB : B ≤ b) (hp : 0 < Θ.sz k) (hs : c.size = m * Θ.sz k) (hc : ∀ (i : Nat) (v : Value), c[i]? = some v → ∃ f, (Θ.fds k)[i % Θ.sz k]? = some f ∧ Gd Θ B N w f v) : TB Θ B N w b k m := by
  refine ⟨fun b' k' m' => TB Θ B N w b' k' m' ∨ (b' = b ∧ k' = k ∧ m' = m), ⟨?_, ?_, ?_⟩, Or.inr ⟨rfl, rfl, rfl⟩⟩
  · rintro b' k' m' (h | ⟨rfl, rfl, rfl⟩)
    · exact h.low
    · exact hB
  · rintro b' k' m' (h | ⟨rfl, rfl, rfl⟩)
    · exact h.pos
    · exact hp
  · rintro b' k' m' (h | ⟨rfl, rfl, rfl⟩)
    · obtain ⟨c', h3, h4, h5⟩ := h.ok
      refine ⟨c', h3, h4, fun i v hv => ?_⟩
      obtain ⟨f, h6, h7⟩ := h5 i v hv
      exact ⟨f, h6, h7.mono (fun _ _ _ h => Or.inl h) (fun _ => Nat.le_refl _)⟩
    · refine ⟨c, hb, hs, fun i v hv => ?_⟩
      obtain ⟨f, h6, h7⟩ := hc i v hv
      exact ⟨f, h6, GoodV.mono (fun _ _ _ h => Or.inl h) (fun _ => Nat.le_refl _) h7⟩
/-- A kind is told by the type of its blocks. -/
def Kinds.Sep (Θ : Kinds) (k : Nat) : Prop := ∀ k', 0 < Θ.sz k → 0 < Θ.sz k' → Θ.ty k = Θ.ty k' → k = k'
/-- A known block with other right cells. -/
theorem Goes.turn (hi : Θ.Sep k) (h : TB Θ B N w b k m) {F : Nat → Prop} (hk : Kept F w w') (hF : ∀ x, x ≠ b → F x) {c : Array Value} (hb : w'.heap[b]? = some (.cells c (Θ.ty k) (0, 0))) (hs : c.size = m * Θ.sz k) (hc : Cells Θ (TB Θ B N w) N k c) : Goes Θ B N w N w' := by
  refine ⟨fun _ => Nat.le_refl _, fun b' k' m' h' => ⟨TB Θ B N w, ⟨fun _ _ _ h => h.low, fun _ _ _ h => h.pos, ?_⟩, h'⟩⟩
  intro b1 k1 m1 h1
  obtain ⟨c1, g1, g2, g3⟩ := h1.ok
  by_cases e : b1 = b
  · subst e
    obtain ⟨c0, q1, q2, -⟩ := h.ok
    rw [q1] at g1
    have e1 : c0 = c1 ∧ Θ.ty k = Θ.ty k1 := by
      have := Option.some.inj g1
      injection this with e1 e2 e3
      exact ⟨e1, e2⟩
    obtain ⟨rfl, e2⟩ := e1
    obtain rfl := hi k1 h.pos h1.pos e2
    have e3 : m1 = m := Nat.eq_of_mul_eq_mul_right h.pos (g2.symm.trans q2)
    subst e3
    exact ⟨c, hb, hs, hc⟩
  · exact ⟨c1, hk.heap g1 (hF _ e), g2, g3⟩
/-- A store into a known block. -/
theorem Goes.set (hi : Θ.Sep k) (h : TB Θ B N w b k m) {j : Nat} {u : Value} (hf : (Θ.fds k)[j % Θ.sz k]? = some f) (hu : Gd Θ B N w f u) : Goes Θ B N w N (w.setCell ⟨b, j, none⟩ u) := by
  obtain ⟨c, h3, h4, h5⟩ := h.ok
  refine Goes.turn hi h (Kept.setCell (F := fun x => x ≠ b) w _ u (fun hn => hn rfl)) (fun _ hx => hx) (heap_setCell_at w b j u _ _ _ h3) (by simpa using h4) ?_
  intro i v hv
  rw [Array.getElem?_setIfInBounds] at hv
  split at hv
  · rename_i e
    subst e
    split at hv
    · cases hv; exact ⟨f, hf, hu⟩
    · cases hv
  · exact h5 i v hv
/-- A slice of a kind: its form, and how it lies. -/
theorem Gd.slice (h : Gd Θ B N w (.sl k) v) : ∃ a n cap, v = .slice a n cap ∧ n ≤ N k ∧ n ≤ cap ∧ (0 < n → ∃ g, a = some ⟨g, 0, none⟩ ∧ TB Θ B N w g k cap) := by
  rcases h with ⟨a, rfl⟩ | ⟨g, n, cap, rfl, h1, h2, h3⟩
  · exact ⟨a, 0, 0, rfl, Nat.zero_le _, Nat.le_refl _, fun h => absurd h (by omega)⟩
  · exact ⟨_, n, cap, rfl, h3, h2, fun _ => ⟨g, rfl, h1⟩⟩
theorem Gd.of_slice {a : Option Addr} {n cap : Nat} (hn : n ≤ N k) (hc : n ≤ cap) {g : Nat} (ha : a = some ⟨g, 0, none⟩) (h : TB Θ B N w g k cap) : Gd Θ B N w (.sl k) (.slice a n cap) := Or.inr ⟨g, n, cap, by rw [ha], h, hc, hn⟩
end
theorem getElem?_zeroCells {z : Array Value} {n i : Nat} {v : Value} (h : (Builtin.zeroCells z n)[i]? = some v) : z[i % z.size]? = some v := by
  unfold Builtin.zeroCells at h
  rw [Array.getElem?_map] at h
  obtain ⟨j, hj, rfl⟩ := Option.map_eq_some_iff.1 h
  have hji : i < n * z.size ∧ j = i := by
    have h1 := Array.getElem?_eq_some_iff.1 hj
    obtain ⟨h2, h3⟩ := h1
    simp at h2 h3
    exact ⟨h2, h3.symm⟩
  obtain ⟨h1, rfl⟩ := hji
  have hz : 0 < z.size := Nat.pos_of_ne_zero fun e => by rw [e] at h1; omega
  rw [getElem!_pos z _ (Nat.mod_lt _ hz), Array.getElem?_eq_getElem (Nat.mod_lt _ hz)]
section
variable {Θ : Kinds} {P : Program}
/-- What an append to a slice of a kind leaves. -/
structure AppTB (Θ : Kinds) (B : Nat) (N N' : Nat → Nat) (w : World) (k : Nat) (a0 : Option Addr) (cap0 n m : Nat) (v' : Value) (w' : World) : Prop where
  goes : Goes Θ B N w N' w'
  gd : Gd Θ B N' w' (.sl k) v'
  form : ∃ a cap, v' = .slice a (n + m) cap
  kept : Kept (fun b => 0 < cap0 → ∀ ad, a0 = some ad → b ≠ ad.block) w w'
  own : (0 < cap0 ∧ v'.ownBlock = (Value.slice a0 n cap0).ownBlock) ∨ v'.ownBlock = some w.heap.size
theorem AppTB.low {B : Nat} {N N' : Nat → Nat} {w w' : World} {k : Nat} {a0 : Option Addr} {cap0 n m n0 : Nat} {v' : Value} (h : AppTB Θ B N N' w k a0 cap0 n m v' w') (hv : Gd Θ B N w (.sl k) (.slice a0 n0 cap0)) : Kept (fun b => b < B) w w' := by
  refine h.kept.mono fun b hb hc ad ha e => ?_
  rcases hv with ⟨a, e1⟩ | ⟨g, n', cap, e1, hg, -⟩
  · cases e1; omega
  · cases e1; cases ha
    have := hg.low
    exact absurd this (by rw [e] at hb; exact Nat.not_le.2 hb)
theorem run_append_tb (w : World) (B : Nat) (N : Nat → Nat) (t ty : TypeId) (i : TypeInfo) (z : Value) (bytes : Nat) (k : Nat) (hi : Θ.Sep k) (ht : P.underlying t = some (.slice (Θ.ty k))) (hinf : P.info? (Θ.ty k) = some i) (hz : i.zero = some z)
    (hsize : i.size = Θ.sz k) (hby : i.bytes = bytes) (hzs : z.cells.size = Θ.sz k) (hsz : 0 < Θ.sz k) (hzg : ∀ (j : Nat) (u : Value), z.cells[j]? = some u → ∃ f, (Θ.fds k)[j]? = some f ∧ ∀ K N, GoodV Θ K N f u)
    (a0 : Option Addr) (n cap0 : Nat) (hv : Gd Θ B N w (.sl k) (.slice a0 n cap0))
    (ad : Addr) (m c : Nat) (news : List Value) (hl : news.length = m * Θ.sz k) (hnews : ∀ j u, news[j]? = some u → w.cell? (ad.add j) = some u) (h1 : ∀ u ∈ news, u.oneCell' = true)
    (hng : ∀ j u, news[j]? = some u → ∃ f, (Θ.fds k)[j % Θ.sz k]? = some f ∧ Gd Θ B N w f u) (hm : 0 < m) (N' : Nat → Nat) (hN : ∀ x, N x ≤ N' x) (hNk : n + m ≤ N' k) (hb1 : N' k ≤ 1000000000) (hb2 : bytes ≤ 100000) (hB : B ≤ w.heap.size) :
    ∃ v' w', (Builtin.append_ #[t, t] ty #[.slice a0 n cap0, .slice (some ad) m c]).run P w = .ok v' w' ∧ AppTB Θ B N N' w k a0 cap0 n m v' w' := by
  have hnN : n ≤ N k := by
    obtain ⟨a, n', cp, e, hn, -, -⟩ := hv.slice
    cases e; exact hn
  have hn63 : n + m ≤ 1000000000 := by omega
  have hbytes : (n + m) * bytes ≤ 140737488355328 := by
    calc (n + m) * bytes ≤ 1000000000 * 100000 := Nat.mul_le_mul hn63 hb2
      _ ≤ 140737488355328 := by decide
  have hmod : ∀ j, (n * Θ.sz k + j) % Θ.sz k = j % Θ.sz k := fun j => by rw [Nat.mul_comm, Nat.mul_add_mod]
  -- the new block
  have grown : ∀ (old : Nat) (olds : List Value), olds.length = n * Θ.sz k → (∀ j u, olds[j]? = some u → ∃ f, (Θ.fds k)[j % Θ.sz k]? = some f ∧ Gd Θ B N w f u) →
      AppTB Θ B N N' w k a0 cap0 n m (.slice (some ⟨w.heap.size, 0, none⟩) (n + m) (grownCap w (n + m) old (Θ.ty k))) (w.drew.alloc (.cells (olds.toArray ++ news.toArray ++ Builtin.zeroCells z.cells (grownCap w (n + m) old (Θ.ty k) - (n + m))) (Θ.ty k))) := by
    intro old olds hol hog
    have hge := grownCap_ge w (n + m) old (Θ.ty k)
    obtain ⟨C, hC⟩ : ∃ C, C = grownCap w (n + m) old (Θ.ty k) := ⟨_, rfl⟩
    rw [← hC] at hge ⊢
    obtain ⟨cs, hcs⟩ : ∃ cs, cs = olds.toArray ++ news.toArray ++ Builtin.zeroCells z.cells (C - (n + m)) := ⟨_, rfl⟩
    rw [← hcs]
    have hk : All w (w.drew.alloc (.cells cs (Θ.ty k))) := (Kept.drew _ w).then_alloc _
    have hg0 : Goes Θ B N w N (w.drew.alloc (.cells cs (Θ.ty k))) := Goes.all hk
    have hg1 := hg0.trans (Goes.up hN)
    have hsz' : cs.size = C * Θ.sz k := by
      rw [hcs]
      simp only [Array.size_append, List.size_toArray, size_zeroCells, hzs, hol, hl, ← Nat.add_mul]
      congr 1; omega
    have htb : TB Θ B N' (w.drew.alloc (.cells cs (Θ.ty k))) w.heap.size k C := by
      refine TB.new (heap_alloc_new w.drew _) hB hsz hsz' fun j v hj => ?_
      have hlen : (olds.toArray ++ news.toArray).size = (n + m) * Θ.sz k := by simp [hol, hl, Nat.add_mul]
      rw [hcs, Array.getElem?_append] at hj
      split at hj
      · rw [Array.getElem?_append] at hj
        split at hj
        · obtain ⟨f, h2, h3⟩ := hog j v (by simpa using hj)
          exact ⟨f, h2, h3.goes hg1⟩
        · rename_i hlt
          simp only [List.size_toArray, hol] at hj hlt
          obtain ⟨f, h2, h3⟩ := hng _ v (by simpa using hj)
          refine ⟨f, ?_, h3.goes hg1⟩
          rw [← hmod (j - n * Θ.sz k), Nat.add_sub_cancel' (by omega)] at h2
          exact h2
      · rename_i hlt
        rw [hlen] at hj hlt
        have h2 := getElem?_zeroCells hj
        rw [hzs] at h2
        obtain ⟨f, h3, h4⟩ := hzg _ v h2
        refine ⟨f, ?_, h4 _ _⟩
        have e : (j - (n + m) * Θ.sz k) % Θ.sz k = j % Θ.sz k := by
          have : ((n + m) * Θ.sz k + (j - (n + m) * Θ.sz k)) % Θ.sz k = (j - (n + m) * Θ.sz k) % Θ.sz k := by rw [Nat.mul_comm, Nat.mul_add_mod]
          rw [← this, Nat.add_sub_cancel' (by omega)]
        rw [e] at h3
        exact h3
    exact ⟨hg1, Gd.of_slice hNk hge rfl htb, ⟨_, _, rfl⟩, hk.all, Or.inr rfl⟩
  rcases hv with ⟨a, e⟩ | ⟨g, n', cap, e, hg, hnc, -⟩
  · cases e
    cases a0 with
    | none =>
      have hr := run_append_nil (P := P) w t ty (Θ.ty k) i z ht hinf hz ad m c news (by rw [hsize]; exact hl) hnews hm (by omega) (by rw [hby]; simp only [Nat.zero_add] at hbytes; omega)
      have hgr := grown 0 [] (by simp) (fun j u h => by simp at h)
      rw [show ([] : List Value).toArray = #[] from rfl, Array.empty_append, Nat.zero_add] at hgr
      exact ⟨_, _, hr, hgr⟩
    | some b =>
      have hr := run_append_grow (P := P) w t ty (Θ.ty k) i z ht hinf hz b 0 0 [] (by simp) (fun j u h => by simp at h) ad m c news (by rw [hsize]; exact hl) hnews (by omega) (by omega) (growslice_fits (by omega) (by rw [hby]; exact hbytes))
      exact ⟨_, _, hr, grown 0 [] (by simp) (fun j u h => by simp at h)⟩
  · cases e
    obtain ⟨cur, h3, h4, h5⟩ := hg.ok
    by_cases hroom : n + m ≤ cap0
    · have hfit : n * i.size + news.length ≤ cur.size := by rw [hsize, hl, h4, ← Nat.add_mul]; exact Nat.mul_le_mul_right _ hroom
      have hr := run_append_room (P := P) w t ty (Θ.ty k) i ht hinf g n cap0 cur h3 ad m c news (by rw [hsize]; exact hl) hnews h1 hroom hfit
      rw [hsize] at hr hfit
      have hkg : Kept (fun x => x ≠ g) w (w.setRow g (cur.toList.take (n * Θ.sz k) ++ news ++ cur.toList.drop (n * Θ.sz k + news.length)).toArray) :=
        ⟨rfl, rfl, rfl, by simp, fun x _ hx => setRow_other w g x _ hx⟩
      have hgo : Goes Θ B N w N (w.setRow g (cur.toList.take (n * Θ.sz k) ++ news ++ cur.toList.drop (n * Θ.sz k + news.length)).toArray) := by
        refine Goes.turn hi hg hkg (fun _ h => h) (setRow_heap w g cur _ _ _ h3) ?_ ?_
        · rw [← h4]
          simp only [List.size_toArray, List.length_append, List.length_take, List.length_drop, Array.length_toList]
          omega
        · intro j v hj
          have hl0 : (cur.toList.take (n * Θ.sz k)).length = n * Θ.sz k := by simp only [List.length_take, Array.length_toList]; omega
          rw [List.getElem?_toArray, List.append_assoc, List.getElem?_append] at hj
          split at hj
          · rename_i hlt
            rw [List.getElem?_take] at hj
            split at hj
            · exact h5 j v (by simpa using hj)
            · cases hj
          · rename_i hlt
            rw [hl0] at hj hlt
            rw [List.getElem?_append] at hj
            split at hj
            · obtain ⟨f, h6, h7⟩ := hng _ v hj
              refine ⟨f, ?_, h7⟩
              rw [← hmod (j - n * Θ.sz k), Nat.add_sub_cancel' (by omega)] at h6
              exact h6
            · rename_i hlt2
              rw [List.getElem?_drop] at hj
              have e : n * Θ.sz k + news.length + (j - n * Θ.sz k - news.length) = j := by omega
              rw [e] at hj
              exact h5 j v (by simpa using hj)
      have hgo2 := hgo.trans (Goes.up hN)
      exact ⟨_, _, hr, hgo2, Gd.of_slice hNk hroom rfl (hgo2.tb _ _ _ hg), ⟨_, _, rfl⟩, hkg.mono (fun x hx => hx (by omega) _ rfl), Or.inl ⟨by omega, rfl⟩⟩
    · have hcell : ∀ j u, (cur.toList.take (n * Θ.sz k))[j]? = some u → w.cell? ((⟨g, 0, none⟩ : Addr).add j) = some u := by
        intro j u hj
        rw [List.getElem?_take] at hj
        split at hj
        · have := cell_at (i := j) h3 (by simpa using hj)
          unfold Addr.add
          split
          · rename_i e; subst e; exact this
          · simpa using this
        · cases hj
      have hl0 : (cur.toList.take (n * Θ.sz k)).length = n * Θ.sz k := by
        have : n * Θ.sz k ≤ cap0 * Θ.sz k := Nat.mul_le_mul_right _ hnc
        simp only [List.length_take, Array.length_toList]; omega
      have hr := run_append_grow (P := P) w t ty (Θ.ty k) i z ht hinf hz ⟨g, 0, none⟩ n cap0 (cur.toList.take (n * Θ.sz k)) (by rw [hsize]; exact hl0) hcell ad m c news (by rw [hsize]; exact hl) hnews (by omega) (by omega) (growslice_fits (by omega) (by rw [hby]; exact hbytes))
      refine ⟨_, _, hr, grown cap0 _ hl0 fun j u hj => ?_⟩
      rw [List.getElem?_take] at hj
      split at hj
      · exact h5 j u (by simpa using hj)
      · cases hj
/-- What the tables say of a kind. -/
structure KindOk (P : Program) (Θ : Kinds) (k : Nat) (t : TypeId) : Prop where
  und : P.underlying t = some (.slice (Θ.ty k))
  inf : ∃ (z : Value) (bytes : Nat), (P.info? (Θ.ty k)).map (fun i => (i.zero, i.size, i.bytes)) = some (some z, Θ.sz k, bytes) ∧ bytes ≤ 100000 ∧ z.cells.size = Θ.sz k ∧ ∀ (j : Nat) (u : Value), z.cells[j]? = some u → ∃ f, (Θ.fds k)[j]? = some f ∧ ∀ K N, GoodV Θ K N f u
  pos : 0 < Θ.sz k
/-- Right cells, one by one. -/
def GdL (Θ : Kinds) (B : Nat) (N : Nat → Nat) (w : World) : List Fd → List Value → Prop
  | [], [] => True
  | f :: fs, v :: vs => Gd Θ B N w f v ∧ GdL Θ B N w fs vs
  | _, _ => False
theorem GdL.at {B : Nat} {N : Nat → Nat} {w : World} : ∀ {fs : List Fd} {vs : List Value}, GdL Θ B N w fs vs → vs.length = fs.length ∧ ∀ (j : Nat) (u : Value), vs[j]? = some u → ∃ f, fs[j]? = some f ∧ Gd Θ B N w f u
  | [], [], _ => ⟨rfl, fun j u h => by simp at h⟩
  | f :: fs, v :: vs, h => by
    obtain ⟨h1, h2⟩ := h
    obtain ⟨h3, h4⟩ := GdL.at h2
    refine ⟨by simp [h3], fun j u hj => ?_⟩
    cases j with
    | zero => simp at hj; subst hj; exact ⟨f, by simp, h1⟩
    | succ j => obtain ⟨g, h5, h6⟩ := h4 j u (by simpa using hj); exact ⟨g, by simpa using h5, h6⟩
  | [], _ :: _, h => h.elim
  | _ :: _, [], h => h.elim
theorem GdL.goes {B : Nat} {N N' : Nat → Nat} {w w' : World} (hg : Goes Θ B N w N' w') : ∀ {fs : List Fd} {vs : List Value}, GdL Θ B N w fs vs → GdL Θ B N' w' fs vs
  | [], [], _ => trivial
  | _ :: _, _ :: _, h => ⟨h.1.goes hg, GdL.goes hg h.2⟩
  | [], _ :: _, h => h.elim
  | _ :: _, [], h => h.elim
theorem Gd.one {B : Nat} {N : Nat → Nat} {w : World} : ∀ {f : Fd} {v : Value}, Gd Θ B N w f v → v.oneCell' = true
  | .s, _, ⟨_, rfl, _⟩ => rfl
  | .i, _, ⟨_, rfl, _⟩ => rfl
  | .r _ _, _, ⟨_, rfl, _⟩ => rfl
  | .b, _, ⟨_, rfl⟩ => rfl
  | .sl _, _, h => by
    rcases h with ⟨a, rfl⟩ | ⟨g, n, cap, rfl, -⟩ <;> rfl
theorem KindOk.append {k : Nat} {t : TypeId} (hk : KindOk P Θ k t) (hi : Θ.Sep k) (w : World) (B : Nat) (N : Nat → Nat) (ty : TypeId) (a0 : Option Addr) (n cap0 : Nat) (hv : Gd Θ B N w (.sl k) (.slice a0 n cap0))
    (ad : Addr) (m c : Nat) (news : List Value) (hl : news.length = m * Θ.sz k) (hnews : ∀ j u, news[j]? = some u → w.cell? (ad.add j) = some u)
    (hng : ∀ j u, news[j]? = some u → ∃ f, (Θ.fds k)[j % Θ.sz k]? = some f ∧ Gd Θ B N w f u) (hm : 0 < m) (N' : Nat → Nat) (hN : ∀ x, N x ≤ N' x) (hNk : n + m ≤ N' k) (hb1 : N' k ≤ 1000000000) (hB : B ≤ w.heap.size) :
    ∃ v' w', (Builtin.append_ #[t, t] ty #[.slice a0 n cap0, .slice (some ad) m c]).run P w = .ok v' w' ∧ AppTB Θ B N N' w k a0 cap0 n m v' w' := by
  obtain ⟨z, bytes, h1, h2, h3, h4⟩ := hk.inf
  obtain ⟨i0, hi0, hz0, hz1, hz2⟩ := info_parts h1
  exact run_append_tb w B N t ty i0 z bytes k hi hk.und hi0 hz0 hz1 hz2 h3 hk.pos h4 a0 n cap0 hv ad m c news hl hnews (fun u hu => by
    obtain ⟨j, hj⟩ := List.mem_iff_getElem?.1 hu
    obtain ⟨f, -, h⟩ := hng j u hj
    exact h.one) hng hm N' hN hNk hb1 h2 hB
theorem op_append_tb {k : Nat} {t : TypeId} (hk : KindOk P Θ k t) (hi : Θ.Sep k) (w : World) {o : Oper} {a : Act} {K : Act → World → Prop} {Q : Exit → Act → World → Prop} (s x : Operand)
    (ho : o.op = .call { callee := .builtin .append, args := #[s, x], argTypes := #[t, t] }) (B : Nat) (N : Nat → Nat) (a0 : Option Addr) (n cap0 : Nat) (hs : a.eval s = .slice a0 n cap0) (hv : Gd Θ B N w (.sl k) (.slice a0 n cap0))
    (nb c : Nat) (vs : List Value) (T : TypeId) (fz : Nat × Nat) (hx : a.eval x = .slice (some ⟨nb, 0, none⟩) 1 c) (hnb : w.heap[nb]? = some (.cells vs.toArray T fz)) (hg : GdL Θ B N w (Θ.fds k) vs) (N' : Nat → Nat) (hN : ∀ x, N x ≤ N' x) (hNk : n + 1 ≤ N' k) (hb1 : N' k ≤ 1000000000) (hB : B ≤ w.heap.size)
    (h : ∀ p' c' w', AppTB Θ B N N' w k a0 cap0 n 1 (.slice p' (n + 1) c') w' → K (a.put o.dst (.slice p' (n + 1) c')) w') : Oper.wp P o a w K Q := by
  obtain ⟨hl, hgd⟩ := hg.at
  obtain ⟨v', w', hr, hA⟩ := hk.append hi w B N o.type a0 n cap0 hv ⟨nb, 0, none⟩ 1 c vs (by rw [hl, Nat.one_mul]; rfl) (fun j u hj => by
    have := cell_at (i := j) (v := u) hnb (by simpa using hj)
    unfold Addr.add
    split
    · rename_i e; subst e; exact this
    · simpa using this) (fun j u hj => by
    obtain ⟨f, h1, h2⟩ := hgd j u hj
    exact ⟨f, by rw [Nat.mod_eq_of_lt (show j < Θ.sz k from (List.getElem?_eq_some_iff.1 h1).1)]; exact h1, h2⟩) (by omega) N' hN hNk hb1 hB
  unfold Oper.wp execOp
  simp only [ho, resolve, invoke, builtin, Sem.run_bind, Sem.run_pure, Result.andThen_ok, List.map_toArray, List.map_cons, List.map_nil, hs, hx, hr]
  obtain ⟨a', c', rfl⟩ := hA.form
  exact h a' c' w' hA
theorem wp_append_tb {k : Nat} {t : TypeId} (hk : KindOk P Θ k t) (hi : Θ.Sep k) (w : World) {ops : Array Oper} {rest : List Oper} {o : Oper} {a : Act} {Q : Exit → Act → World → Prop} (hgd : o.guard = none) (s x : Operand)
    (ho : o.op = .call { callee := .builtin .append, args := #[s, x], argTypes := #[t, t] }) (B : Nat) (N : Nat → Nat) (a0 : Option Addr) (n cap0 : Nat) (hs : a.eval s = .slice a0 n cap0) (hv : Gd Θ B N w (.sl k) (.slice a0 n cap0))
    (nb c : Nat) (vs : List Value) (T : TypeId) (fz : Nat × Nat) (hx : a.eval x = .slice (some ⟨nb, 0, none⟩) 1 c) (hnb : w.heap[nb]? = some (.cells vs.toArray T fz)) (hg : GdL Θ B N w (Θ.fds k) vs) (N' : Nat → Nat) (hN : ∀ x, N x ≤ N' x) (hNk : n + 1 ≤ N' k) (hb1 : N' k ≤ 1000000000) (hB : B ≤ w.heap.size)
    (h : ∀ p' c' w', AppTB Θ B N N' w k a0 cap0 n 1 (.slice p' (n + 1) c') w' → wpList P ops Q rest (a.put o.dst (.slice p' (n + 1) c')) w') : wpList P ops Q (o :: rest) a w :=
  wpList_plain hgd fun _ hK' => op_append_tb hk hi w s x ho B N a0 n cap0 hs hv nb c vs T fz hx hnb hg N' hN hNk hb1 hB fun p' c' w' hA => hK' _ _ (h p' c' w' hA)
/-- Cells one behind the other, stored. -/
theorem Goes.puts {B : Nat} {N : Nat → Nat} {b k m : Nat} (hi : Θ.Sep k) (i : Nat) : ∀ (vs : List Value) (fs : List Fd) (j : Nat) (w : World), TB Θ B N w b k m → (Θ.fds k).drop j = fs → GdL Θ B N w fs vs → Goes Θ B N w N (w.setCells b (i * Θ.sz k + j) vs)
  | [], _, _, w, _, _, _ => Goes.refl _ _ _ _
  | v :: vs, [], _, _, _, _, h => h.elim
  | v :: vs, f :: fs, j, w, hb, hf, h => by
    have hj : (Θ.fds k)[j]? = some f := by
      have : ((Θ.fds k).drop j)[0]? = some f := by rw [hf]; rfl
      rw [List.getElem?_drop] at this; simpa using this
    have hlt : j < Θ.sz k := (List.getElem?_eq_some_iff.1 hj).1
    have hg := Goes.set hi hb (j := i * Θ.sz k + j) (f := f) (u := v) (by rw [Nat.mul_comm, Nat.mul_add_mod, Nat.mod_eq_of_lt hlt]; exact hj) h.1
    exact hg.trans (Goes.puts hi i vs fs (j + 1) _ (hg.tb _ _ _ hb) (by rw [← List.drop_drop, hf]; rfl) (h.2.goes hg))
/-- append(S{}, s...). -/
theorem wp_clone_tb {k : Nat} {t : TypeId} (hk : KindOk P Θ k t) (hi : Θ.Sep k) (w : World) {ops : Array Oper} {rest : List Oper} {o : Oper} {a : Act} {Q : Exit → Act → World → Prop} (hgd : o.guard = none) (s x : Operand)
    (ho : o.op = .call { callee := .builtin .append, args := #[s, x], argTypes := #[t, t] }) (B : Nat) (N : Nat → Nat) (nb : Nat) (hs : a.eval s = .slice (some ⟨nb, 0, none⟩) 0 0)
    (ad : Addr) (n c : Nat) (hx : a.eval x = .slice (some ad) n c) (hg : Gd Θ B N w (.sl k) (.slice (some ad) n c)) (hb1 : N k ≤ 1000000000) (hB : B ≤ w.heap.size)
    (h : ∀ p' c' w', Gd Θ B N w' (.sl k) (.slice p' n c') → All w w' → wpList P ops Q rest (a.put o.dst (.slice p' n c')) w') : wpList P ops Q (o :: rest) a w := by
  refine wpList_plain hgd fun K hK' => ?_
  rcases Nat.eq_zero_or_pos n with rfl | h0
  · obtain ⟨z, bytes, h1, -⟩ := hk.inf
    obtain ⟨i0, hi0, -⟩ := info_parts h1
    have hr := run_append_nothing (P := P) w t t o.type _ i0 hk.und hi0 (some ⟨nb, 0, none⟩) 0 0 (Nat.le_refl _) (.slice (some ad) 0 c) ⟨Or.inl ⟨_, hk.und⟩, fun w' => by simp [Builtin.lenOf], by simp [Builtin.firstCells, loadCells, loadCellsFrom], by simp [Builtin.firstCells, loadCells, loadCellsFrom], by simp, by simp⟩
    unfold Oper.wp execOp
    simp only [ho, resolve, invoke, builtin, Sem.run_bind, Sem.run_pure, Result.andThen_ok, List.map_toArray, List.map_cons, List.map_nil, hs, hx, hr]
    exact hK' _ _ (h _ _ _ (Or.inl ⟨_, rfl⟩) (Kept.refl _ _))
  · obtain ⟨a', n', c', e, hnN, hnc, hg2⟩ := hg.slice
    cases e
    obtain ⟨g, e, htb⟩ := hg2 h0
    cases e
    obtain ⟨cur, h3, h4, h5⟩ := htb.ok
    have hl : (cur.toList.take (n * Θ.sz k)).length = n * Θ.sz k := by
      have : n * Θ.sz k ≤ c * Θ.sz k := Nat.mul_le_mul_right _ hnc
      simp only [List.length_take, Array.length_toList]; omega
    obtain ⟨v', w', hr, hA⟩ := hk.append hi w B N o.type (some ⟨nb, 0, none⟩) 0 0 (Or.inl ⟨_, rfl⟩) ⟨g, 0, none⟩ n c (cur.toList.take (n * Θ.sz k)) hl (fun j u hj => by
      rw [List.getElem?_take] at hj
      split at hj
      · have := cell_at (i := j) h3 (by simpa using hj)
        unfold Addr.add
        split
        · rename_i e; subst e; exact this
        · simpa using this
      · cases hj) (fun j u hj => by
      rw [List.getElem?_take] at hj
      split at hj
      · exact h5 j u (by simpa using hj)
      · cases hj) h0 N (fun _ => Nat.le_refl _) (by omega) hb1 hB
    unfold Oper.wp execOp
    simp only [ho, resolve, invoke, builtin, Sem.run_bind, Sem.run_pure, Result.andThen_ok, List.map_toArray, List.map_cons, List.map_nil, hs, hx, hr]
    obtain ⟨a', c', rfl⟩ := hA.form
    rw [Nat.zero_add]
    have hgd' := hA.gd
    rw [Nat.zero_add] at hgd'
    exact hK' _ _ (h _ _ _ hgd' (hA.kept.mono fun b _ hc => absurd hc (by omega)))
theorem Goes.clears {B : Nat} {N : Nat → Nat} {b k m : Nat} (hi : Θ.Sep k) {z : Value} (hz : ∀ (j : Nat) (u : Value), z.cells[j]? = some u → ∃ f, (Θ.fds k)[j]? = some f ∧ ∀ K N, GoodV Θ K N f u) (hzs : z.cells.size = Θ.sz k) (o : Nat) : ∀ (vs : List Value) (i : Nat) (w : World), TB Θ B N w b k m → (∀ (j : Nat) (u : Value), vs[j]? = some u → z.cells[(i + j) % Θ.sz k]? = some u) → Goes Θ B N w N (w.setCells b (o * Θ.sz k + i) vs)
  | [], _, w, _, _ => Goes.refl _ _ _ _
  | v :: vs, i, w, hb, h => by
    obtain ⟨f, h1, h2⟩ := hz _ _ (h 0 v rfl)
    have hg := Goes.set hi hb (j := o * Θ.sz k + i) (f := f) (u := v) (by rw [Nat.mul_comm, Nat.mul_add_mod]; simpa using h1) (h2 _ _)
    exact hg.trans (Goes.clears hi hz hzs o vs (i + 1) _ (hg.tb _ _ _ hb) (fun j u hj => by
      have := h (j + 1) u (by simpa using hj)
      rw [show i + (j + 1) = i + 1 + j by omega] at this
      exact this))
/-- clear(s[o:]). -/
theorem KindOk.clear {k : Nat} {t : TypeId} (hk : KindOk P Θ k t) (hv : ∃ z, ((P.info? (Θ.ty k)).bind fun i => i.zero) = some z ∧ ∀ w, (zeroValue (Θ.ty k)).run P w = .ok z w) (hi : Θ.Sep k) (w : World) (B : Nat) (N : Nat → Nat) (b m o n c K : Nat) (hK : Θ.sz k = K) (hb : TB Θ B N w b k m) (hn : o + n ≤ m) (h0 : 0 < n) :
    ∃ w', (∀ ty, (Builtin.clear_ #[t] ty #[.slice (some ⟨b, o * K, none⟩) n c]).run P w = .ok (.tuple #[]) w') ∧ Goes Θ B N w N w' ∧ Kept (fun x => x ≠ b) w w' := by
  subst hK
  obtain ⟨z, bytes, h1, h2, h3, h4⟩ := hk.inf
  obtain ⟨i0, hi0, hz0, hz1, hz2⟩ := info_parts h1
  obtain ⟨z', hz', hv⟩ := hv
  rw [hi0] at hz'
  have e : z' = z := by
    have : i0.zero = some z' := hz'
    rw [hz0] at this
    exact (Option.some.inj this).symm
  subst e
  obtain ⟨cur, g1, g2, g3⟩ := hb.ok
  have hsz : (Builtin.zeroCells z'.cells n).size = n * Θ.sz k := by rw [size_zeroCells, h3]
  have hle : o * Θ.sz k + n * Θ.sz k ≤ m * Θ.sz k := by rw [← Nat.add_mul]; exact Nat.mul_le_mul_right _ hn
  have hr := fun (ty : TypeId) => run_clear_flat (P := P) w t (Θ.ty k) ty z' hk.und hv b (o * Θ.sz k) n c h0 (fun u hu => by
    obtain ⟨j, hj⟩ := List.mem_iff_getElem?.1 hu
    have := getElem?_zeroCells (by simpa using hj)
    obtain ⟨f, -, h⟩ := h4 _ _ this
    exact Gd.one (h (TB Θ B N w) N)) (fun j hj => by
    rw [hsz] at hj
    have hlt : o * Θ.sz k + j < cur.size := by omega
    rw [cell_at (i := o * Θ.sz k + j) g1 (Array.getElem?_eq_getElem hlt)]; rfl) (fun j _ => frozen_at g1)
  refine ⟨_, hr, ?_, kept_setCellsF b (fun h => h rfl) _ _ _⟩
  have := Goes.clears (B := B) (N := N) hi h4 h3 o (Builtin.zeroCells z'.cells n).toList 0 w hb (fun j u hj => by
    have := getElem?_zeroCells (by simpa using hj)
    rw [h3] at this
    rw [Nat.zero_add]; exact this)
  simpa using this
end
end Go.Proofs.YtgobnlgmbplggaaGreatDoor

/- Order of strings; lists by places. No program in sight. -/
namespace Go.Proofs.YtgobnlgmbplggaaGreatDoor
open Go.RowKit

/-- Go's a <= b on strings. -/
def leB (a b : ByteArray) : Bool := Op.bytesLess a.toList b.toList || a.toList == b.toList
theorem drop_at {α : Type} {xs : List α} {k : Nat} {y : α} (h : xs[k]? = some y) : xs.drop k = y :: xs.drop (k + 1) := by
  obtain ⟨hk, rfl⟩ := List.getElem?_eq_some_iff.1 h
  exact List.drop_eq_getElem_cons hk
theorem last_take {α : Type} {xs : List α} {k : Nat} {y : α} (h : xs[k]? = some y) : (xs.take (k + 1)).getLast? = some y := by
  obtain ⟨hk, rfl⟩ := List.getElem?_eq_some_iff.1 h
  rw [List.take_succ_eq_append_getElem hk]; exact List.getLast?_concat
end Go.Proofs.YtgobnlgmbplggaaGreatDoor

/- Strings in order. No program in sight. -/
namespace Go.Proofs.YtgobnlgmbplggaaGreatDoor
open Go.RowKit

theorem bl_irrefl : ∀ a : List UInt8, Op.bytesLess a a = false
  | [] => rfl
  | x :: l => by simp [Op.bytesLess, bl_irrefl l]
theorem bl_trans : ∀ {a b c : List UInt8}, Op.bytesLess a b = true → Op.bytesLess b c = true → Op.bytesLess a c = true
  | _, [], _, h, _ => by simp [Op.bytesLess] at h
  | _, _ :: _, [], _, h => by simp [Op.bytesLess] at h
  | [], _ :: _, _ :: _, _, _ => rfl
  | x :: a, y :: b, z :: c, h1, h2 => by
    simp only [Op.bytesLess, Bool.or_eq_true, decide_eq_true_eq, Bool.and_eq_true, beq_iff_eq] at *
    rcases h1 with h1 | ⟨rfl, h1⟩
    · rcases h2 with h2 | ⟨rfl, h2⟩
      · exact Or.inl (by rw [UInt8.lt_iff_toNat_lt] at *; omega)
      · exact Or.inl h1
    · rcases h2 with h2 | ⟨rfl, h2⟩
      · exact Or.inl h2
      · exact Or.inr ⟨rfl, bl_trans h1 h2⟩
theorem bl_total : ∀ {a b : List UInt8}, Op.bytesLess a b = false → a ≠ b → Op.bytesLess b a = true
  | [], [], _, h => absurd rfl h
  | [], _ :: _, h, _ => by simp [Op.bytesLess] at h
  | _ :: _, [], _, _ => rfl
  | x :: a, y :: b, h1, h2 => by
    simp only [Op.bytesLess, Bool.or_eq_false_iff, decide_eq_false_iff_not, Bool.and_eq_false_iff, beq_eq_false_iff_ne, Bool.or_eq_true, decide_eq_true_eq, Bool.and_eq_true, beq_iff_eq] at *
    by_cases e : x = y
    · subst e
      refine Or.inr ⟨rfl, bl_total (h1.2.resolve_left (by simp)) (fun e => h2 (by rw [e]))⟩
    · refine Or.inl ?_
      have := h1.1
      have hne : x.toNat ≠ y.toNat := fun e2 => e (UInt8.toNat_inj.1 e2)
      rw [UInt8.lt_iff_toNat_lt] at *
      omega
theorem cmp_neg : ∀ (a b : List UInt8), Lib.compareBytes a b < 0 ↔ Op.bytesLess a b = true
  | [], [] => by simp [Lib.compareBytes, Op.bytesLess]
  | [], _ :: _ => by simp [Lib.compareBytes, Op.bytesLess]
  | _ :: _, [] => by simp [Lib.compareBytes, Op.bytesLess]
  | x :: a, y :: b => by
    simp only [Lib.compareBytes, Op.bytesLess, Bool.or_eq_true, decide_eq_true_eq, Bool.and_eq_true, beq_iff_eq]
    by_cases h : x < y
    · simp [h]
    · by_cases h2 : y < x
      · have hne : x ≠ y := fun e => by subst e; exact h h2
        simp [h, h2, hne]
      · have he : x = y := UInt8.toNat_inj.1 (by rw [UInt8.lt_iff_toNat_lt] at *; omega)
        subst he
        simp [h, cmp_neg a b]
theorem cmp_zero : ∀ (a b : List UInt8), Lib.compareBytes a b = 0 ↔ a = b
  | [], [] => by simp [Lib.compareBytes]
  | [], _ :: _ => by simp [Lib.compareBytes]
  | _ :: _, [] => by simp [Lib.compareBytes]
  | x :: a, y :: b => by
    simp only [Lib.compareBytes]
    by_cases h : x < y
    · have hne : x ≠ y := fun e => by subst e; rw [UInt8.lt_iff_toNat_lt] at h; omega
      simp [h, hne]
    · by_cases h2 : y < x
      · have hne : x ≠ y := fun e => by subst e; exact h h2
        simp [h, h2, hne]
      · have he : x = y := UInt8.toNat_inj.1 (by rw [UInt8.lt_iff_toNat_lt] at *; omega)
        subst he
        simp [h, cmp_zero a b]
theorem tl_data (s : ByteArray) : s.toList = s.data.toList := Go.ByteArray.toList_eq s
theorem leB_false {a b : ByteArray} (h : leB a b = false) : Op.bytesLess b.toList a.toList = true := by
  unfold leB at h
  rw [Bool.or_eq_false_iff] at h
  exact bl_total h.1 (by simpa using h.2)
end Go.Proofs.YtgobnlgmbplggaaGreatDoor

/- Scans of lists for what is wrong. No program in sight. -/
namespace Go.Proofs.YtgobnlgmbplggaaGreatDoor
open Go.RowKit

section
variable {α : Type}
/-- The first thing that is wrong with an element, given the one before it. -/
def scanF (f : Option α → α → Int) : Option α → List α → Int
  | _, [] => 0
  | p, x :: l => if f p x ≠ 0 then f p x else scanF f (some x) l
def prevAt (xs : List α) (k : Nat) : Option α := if k = 0 then none else xs[k - 1]?
/-- Nothing is wrong before element k. -/
def ScanAt (f : Option α → α → Int) (xs : List α) (k : Nat) : Prop := scanF f none xs = scanF f (prevAt xs k) (xs.drop k)
variable {f : Option α → α → Int} {xs : List α} {k : Nat} {x y : α} {z : Int}
theorem prevAt_succ (h : xs[k]? = some x) : prevAt xs (k + 1) = some x := by
  rw [prevAt, if_neg (by omega)]; exact h
theorem drop_cons (h : xs[k]? = some x) : xs.drop k = x :: xs.drop (k + 1) := by
  obtain ⟨hk, rfl⟩ := List.getElem?_eq_some_iff.1 h
  exact List.drop_eq_getElem_cons hk
theorem ScanAt.zero (f : Option α → α → Int) (xs : List α) : ScanAt f xs 0 := rfl
theorem ScanAt.bad (h : ScanAt f xs k) (hx : xs[k]? = some x) (he : f (prevAt xs k) x = z) (hz : z ≠ 0) : scanF f none xs = z := by
  rw [h, drop_cons hx, scanF, if_pos (by rw [he]; exact hz), he]
theorem ScanAt.next (h : ScanAt f xs k) (hx : xs[k]? = some x) (he : f (prevAt xs k) x = 0) : ScanAt f xs (k + 1) := by
  rw [ScanAt, h, drop_cons hx, scanF, if_neg (by rw [he]; simp), prevAt_succ hx]
theorem ScanAt.ok (h : ScanAt f xs k) (hk : xs.length ≤ k) : scanF f none xs = 0 := by
  rw [h, List.drop_of_length_le hk]; rfl
theorem scan_all : ∀ (l : List α) (p : Option α), scanF f p l = 0 → ∀ x ∈ l, ∃ q, f q x = 0
  | [], _, _, _, hx => nomatch hx
  | y :: l, p, h, x, hx => by
    rw [scanF] at h
    split at h
    · rename_i h1; exact absurd h h1
    · rename_i h1
      rcases List.mem_cons.1 hx with rfl | hx
      · exact ⟨p, Classical.not_not.1 h1⟩
      · exact scan_all l (some y) h x hx
/-- Elements that rise by a key of theirs. -/
theorem scan_rise {key : α → ByteArray} (hf : ∀ p x, f (some p) x = 0 → leB (key x) (key p) = false) : ∀ (l : List α) (p : α), scanF f (some p) l = 0 → ∀ x ∈ l, Op.bytesLess (key p).toList (key x).toList = true := by
  intro l
  induction l with
  | nil => intro p _ x hx; exact nomatch hx
  | cons y l ih =>
    intro p h x hx
    rw [scanF] at h
    split at h
    · rename_i h1; exact absurd h h1
    · rename_i h1
      have h2 := hf p y (Classical.not_not.1 h1)
      have h3 : Op.bytesLess (key p).toList (key y).toList = true := leB_false h2
      rcases List.mem_cons.1 hx with rfl | hx
      · exact h3
      · exact bl_trans h3 (ih y h x hx)
end
/-- Is the element not above the one before? -/
def notUp (p : Option ByteArray) (s : ByteArray) : Bool := match p with | some q => leB s q | none => false
end Go.Proofs.YtgobnlgmbplggaaGreatDoor
