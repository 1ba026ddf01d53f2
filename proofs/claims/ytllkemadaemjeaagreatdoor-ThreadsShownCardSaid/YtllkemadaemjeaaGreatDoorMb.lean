/- Maps of the call's own whose keys are strings, with whatever values; ranging over them. No program in sight. -/
import Derived.Test.YtllkemadaemjeaaGreatDoorZc
import Derived.Maps.OwnOps
import Derived.Maps.OwnSet
import Derived.Maps.Views
import Derived.Maps.RangeWalk
import Derived.StringKeys
namespace Go.Proofs.YtllkemadaemjeaaGreatDoor
open Go.RowKit
open Go.Maps (Keyed IsMap)

/-- How an element reads: as itself. -/
def heldR (v : Value) : Option (DataW Value × List MemPlace) := some (.held v, [])
theorem heldR_mk (v : Value) : heldR v = some (.held v, []) := rfl

/-- Block b is a map of at most n entries; m says what lies at a string. -/
def MapS (P : Program) (k : TypeId) (w : World) (b n : Nat) (m : ByteArray → Option Value) : Prop :=
  ∃ D : DataW Value, w.ownsMap P k heldR b n D ∧ ∀ s : ByteArray, Maps.has D (.string s.data.toList) = (m s).isSome ∧ ∀ z, D.atKey (.string s.data.toList) (.held z) = .held ((m s).getD z)
/-- m with v at s. -/
def putS (m : ByteArray → Option Value) (s : ByteArray) (v : Value) : ByteArray → Option Value := fun x => if x = s then some v else m x
theorem putS_same (m : ByteArray → Option Value) (s : ByteArray) (v : Value) : putS m s v s = some v := by simp [putS]
theorem putS_other {m : ByteArray → Option Value} {s x : ByteArray} {v : Value} (h : x ≠ s) : putS m s v x = m x := by simp [putS, h]

section
variable {P : Program} {k e t : TypeId} {w w' : World} {b n : Nat} {m : ByteArray → Option Value}

theorem MapS.made (P : Program) (k : TypeId) (w : World) : MapS P k (w.alloc (.map #[] 0)) w.heap.size 0 (fun _ => none) :=
  ⟨.map [], World.ownsMap_made _ _ _ _, fun _ => ⟨rfl, fun _ => rfl⟩⟩
theorem MapS.lt (h : MapS P k w b n m) : b < w.heap.size := by
  obtain ⟨D, h1, _⟩ := h
  exact h1.lt
theorem MapS.blk (h : MapS P k w b n m) : ∃ es clock, w.heap[b]? = some (.map es clock) := by
  obtain ⟨D, ⟨es, clock, hb, _⟩, _⟩ := h
  exact ⟨es, clock, hb⟩
theorem MapS.keep {F : Nat → Prop} (h : MapS P k w b n m) (hk : Kept F w w') (hF : F b) : MapS P k w' b n m := by
  have hl := h.lt
  obtain ⟨D, ⟨es, clock, hb, F', hs, hD⟩, h3⟩ := h
  exact ⟨D, ⟨es, clock, (hk.block b hl hF).trans hb, F', hs, hD⟩, h3⟩
theorem MapS.up {n' : Nat} (h : MapS P k w b n m) (hn : n ≤ n') : MapS P k w b n' m := by
  obtain ⟨D, h1, h3⟩ := h
  exact ⟨D, h1.mono hn, h3⟩
theorem MapS.congr {m' : ByteArray → Option Value} (h : MapS P k w b n m) (hm : ∀ s, m s = m' s) : MapS P k w b n m' := by
  have : m = m' := funext hm
  rw [← this]; exact h
theorem MapS.look (h : MapS P k w b n m) (hk : P.underlying k = some .string) (ht : P.underlying t = some (.map k e)) {z : Value} (hz : (zeroValue e).run P w = .ok z w) (s : ByteArray) (hs : s.size ≤ 1000000) :
    (Instr.lookup t (.map (some b)) (.string s) false).run P w = .ok ((m s).getD z) w := by
  obtain ⟨D, h1, h3⟩ := h
  obtain ⟨v, ps, hrun, hv⟩ := h1.lookup (Go.Maps.string_keyed hk) ht hz (heldR_mk z) (Go.WideMaps.keyOf_string_mk hk (show s.size ≤ maxLen by unfold maxLen; omega))
  rw [(h3 s).2 z] at hv
  simp only [heldR, Option.some.injEq, Prod.mk.injEq, DataW.held.injEq] at hv
  rw [hrun, hv.1]
theorem MapS.look_ok (h : MapS P k w b n m) (hk : P.underlying k = some .string) (ht : P.underlying t = some (.map k e)) {z : Value} (hz : (zeroValue e).run P w = .ok z w) (s : ByteArray) (hs : s.size ≤ 1000000) :
    (Instr.lookup t (.map (some b)) (.string s) true).run P w = .ok (.tuple #[(m s).getD z, .bool (m s).isSome]) w := by
  obtain ⟨D, h1, h3⟩ := h
  obtain ⟨v, ps, hrun, hv⟩ := h1.look_ok (Go.Maps.string_keyed hk) ht hz (heldR_mk z) (Go.WideMaps.keyOf_string_mk hk (show s.size ≤ maxLen by unfold maxLen; omega))
  rw [(h3 s).2 z] at hv
  simp only [heldR, Option.some.injEq, Prod.mk.injEq, DataW.held.injEq] at hv
  rw [hrun, hv.1, (h3 s).1]
theorem MapS.put (h : MapS P k w b n m) (hk : P.underlying k = some .string) (ht : P.underlying t = some (.map k e)) (hn : n ≤ 1000000) (s : ByteArray) (hs : s.size ≤ 1000000) (v : Value) :
    ∃ w', (Instr.mapUpdate t (.map (some b)) (.string s) v).run P w = .ok () w' ∧ MapS P k w' b (n + 1) (putS m s v) ∧ But b w w' := by
  obtain ⟨D, h1, h3⟩ := h
  have hM := h1.isMap
  obtain ⟨w', hrun, h4, hg⟩ := h1.update (Go.Maps.string_keyed hk) ht (show n < maxLen by unfold maxLen; omega) (Go.WideMaps.keyOf_string_mk hk (show s.size ≤ maxLen by unfold maxLen; omega)) (heldR_mk v)
  refine ⟨w', hrun, ⟨_, h4, fun x => ?_⟩, (Kept.refl _ _).grown hg (fun k hk => by cases hk; exact Or.inr (by simp))⟩
  by_cases hx : x = s
  · subst hx
    have hkl : WideAt.IsKeyLit (.string x.data.toList) := by simp [WideAt.IsKeyLit]
    refine ⟨?_, fun z => ?_⟩
    · rw [Go.Maps.has_put_same hM hkl, putS_same]; rfl
    · rw [Go.Maps.atKey_put_same hM hkl, putS_same]; rfl
  · have hne : (Lit.string x.data.toList) ≠ .string s.data.toList := fun e => hx (Go.WideShapes.bytes_inj (by injection e))
    refine ⟨?_, fun z => ?_⟩
    · rw [Go.Maps.has_put_other hne, putS_other hx, (h3 x).1]
    · rw [Go.Maps.atKey_put_other hne, putS_other hx, (h3 x).2]
end

/-- A range over the map in block b is under way (its iterator is block r): left says which strings are still to come. -/
def RangeS (P : Program) (k : TypeId) (w : World) (b r n : Nat) (m : ByteArray → Option Value) (left : ByteArray → Bool) (cnt : Nat) : Prop :=
  ∃ (D : DataW Value) (lf : Lit → Bool), w.ranges P k heldR b r n D lf cnt ∧ (∀ s : ByteArray, Maps.has D (.string s.data.toList) = (m s).isSome ∧ ∀ z, D.atKey (.string s.data.toList) (.held z) = .held ((m s).getD z)) ∧ ∀ s : ByteArray, lf (.string s.data.toList) = left s
theorem keyOf_string_inv {P : Program} {k : TypeId} (hk : P.underlying k = some .string) {key : Value} {kl : Lit} (h : keyOf P k key = some kl) : ∃ s : ByteArray, key = .string s ∧ kl = .string s.data.toList ∧ s.size ≤ maxLen := by
  cases key <;> simp [keyOf, hk, mapKey] at h
  obtain ⟨hw, rfl⟩ := h
  exact ⟨_, rfl, rfl, hw⟩

section
variable {P : Program} {k e t : TypeId} {w w' : World} {b r n cnt : Nat} {m : ByteArray → Option Value} {left : ByteArray → Bool}
theorem RangeS.map (h : RangeS P k w b r n m left cnt) : MapS P k w b n m := by
  obtain ⟨D, lf, h1, h2, h3⟩ := h
  exact ⟨D, h1.owns, h2⟩
theorem RangeS.left_eq (h : RangeS P k w b r n m left cnt) : w.rangeLeft b r = cnt := by
  obtain ⟨D, lf, h1, h2, h3⟩ := h
  exact h1.left_eq
theorem RangeS.ne (h : RangeS P k w b r n m left cnt) : r ≠ b := by
  obtain ⟨D, lf, h1, h2, h3⟩ := h
  exact h1.ne
theorem RangeS.lt (h : RangeS P k w b r n m left cnt) : r < w.heap.size := by
  obtain ⟨D, lf, h1, h2, h3⟩ := h
  exact h1.lt
theorem RangeS.iter (h : RangeS P k w b r n m left cnt) : ∃ a b c d, w.heap[r]? = some (.mapIter a b c d) := by
  obtain ⟨D, lf, ⟨es, clock, since, seen, c0, hb, F, hs, hD, hr, _⟩, h2, h3⟩ := h
  exact ⟨_, _, _, _, hr⟩
theorem RangeS.keep {F : Nat → Prop} (h : RangeS P k w b r n m left cnt) (hk : Kept F w w') (hb' : F b) (hr' : F r) : RangeS P k w' b r n m left cnt := by
  have hbl := h.map.lt
  have hrl := h.lt
  obtain ⟨D, lf, ⟨es, clock, since, seen, c0, hb, F, hs, hD, hr, rest⟩, h2, h3⟩ := h
  exact ⟨D, lf, ⟨es, clock, since, seen, c0, (hk.block b hbl hb').trans hb, F, hs, hD, (hk.block r hrl hr').trans hr, rest⟩, h2, h3⟩
theorem MapS.range (h : MapS P k w b n m) (hk : P.underlying k = some .string) (ht : P.underlying t = some (.map k e)) :
    ∃ w' cnt, (Instr.range t (.map (some b))).run P w = .ok (.pointer (some ⟨w.heap.size, 0, none⟩)) w' ∧ RangeS P k w' b w.heap.size n m (fun s => (m s).isSome) cnt ∧ All w w' ∧ w'.heap.size = w.heap.size + 1 := by
  obtain ⟨D, h1, h3⟩ := h
  obtain ⟨w', hrun, h4, hg, hsz⟩ := h1.range (Go.Maps.string_keyed hk) ht
  exact ⟨w', _, hrun, ⟨D, _, h4, h3, fun s => (h3 s).1⟩, (Kept.refl _ _).grown hg (fun k hk => by cases hk), hsz⟩
/-- The next step: nothing is left, or one of those left comes. -/
theorem RangeS.next (h : RangeS P k w b r n m left cnt) (hk : P.underlying k = some .string) (ty : TypeId) :
    ((∀ s : ByteArray, left s = false) ∧ (Instr.next (.pointer (some ⟨r, 0, none⟩)) false ty).run P w = .ok (.tuple #[.bool false]) w) ∨
    ∃ (s : ByteArray) (v : Value) (w' : World) (cnt' : Nat), left s = true ∧ m s = some v ∧ (Instr.next (.pointer (some ⟨r, 0, none⟩)) false ty).run P w = .ok (.tuple #[.bool true, .string s, v]) w' ∧
      RangeS P k w' b r n m (fun x => left x && !decide (x = s)) cnt' ∧ cnt' < cnt ∧ But r w w' ∧ w'.heap.size = w.heap.size ∧ (Instr.entry (.pointer (some ⟨r, 0, none⟩))).run P w' = .ok (.tuple #[.string s, v]) w' := by
  obtain ⟨D, lf, h1, h2, h3⟩ := h
  rcases h1.next (Go.Maps.string_keyed hk) ty with ⟨-, hl, hrun⟩ | ⟨key, v, kl, y, w', cnt', hkey, hlk, hv, hat, hrun, hrg, hlt, hgr, hsz, hen⟩
  · exact Or.inl ⟨fun s => by rw [← h3 s]; exact hl _, hrun⟩
  · obtain ⟨s, rfl, rfl, -⟩ := keyOf_string_inv hk hkey
    have hy : y = (.held v, []) := by
      have := heldR_mk v
      rw [hv] at this
      injection this
    subst hy
    have hms : m s = some v := by
      have e0 := hat (.held v)
      rw [(h2 s).2] at e0
      have hh : Maps.has D (.string s.data.toList) = true := Go.Maps.has_true_of_atKey hat
      rw [(h2 s).1] at hh
      obtain ⟨u, hu⟩ := Option.isSome_iff_exists.1 hh
      rw [hu] at e0 ⊢
      simp only [Option.getD_some, DataW.held.injEq] at e0
      rw [e0]
    refine Or.inr ⟨s, v, w', cnt', by rw [← h3 s]; exact hlk, hms, hrun, ⟨D, _, hrg, h2, fun x => ?_⟩, hlt, (Kept.refl _ _).grown hgr (fun k hk => by cases hk; exact Or.inr (by simp)), hsz, hen⟩
    show (lf (.string x.data.toList) && !(Lit.string x.data.toList).sameKey (.string s.data.toList)) = _
    rw [h3 x]
    congr 1
    by_cases hx : x = s
    · subst hx
      rw [WideAt.sameKey_self (by simp [WideAt.IsKeyLit])]
      simp
    · rw [Go.Maps.sameKey_ne (fun e => hx (Go.WideShapes.bytes_inj (by injection e)))]
      simp [hx]
end
end Go.Proofs.YtllkemadaemjeaaGreatDoor
