/- Maps of the call's own whose keys are strings, with whatever values; ranging over them. No program in sight. -/
import Derived.Test.YtbpbhpmkganefaaGreatDoorZd
import Derived.Maps.OwnOps
import Derived.Maps.OwnSet
import Derived.Maps.Views
import Derived.Maps.RangeWalk
import Derived.StringKeys
import Derived.WideKeyPair
import Derived.WideKeyEntry
import Derived.Test.YtbpbhpmkganefaaGreatDoorZm
namespace Go.Proofs.YtbpbhpmkganefaaGreatDoor
open Go.RowKit
open Go.Maps (Keyed IsMap)

/-- How an element reads: as itself. -/
def heldR (v : Value) : Option (DataW Value × List MemPlace) := some (.held v, [])
theorem heldR_mk (v : Value) : heldR v = some (.held v, []) := rfl

/-- Block b is a map of at most n entries; m says what lies at a string. -/
def MapS (P : Program) (k : TypeId) (w : World) (b n : Nat) (m : ByteArray → Option Value) : Prop :=
  ∃ D : DataW Value, w.ownsMap P k heldR b n D ∧ ∀ s : ByteArray, Maps.has D (.string s.data.toList) = (m s).isSome ∧ ∀ z, D.atKey (.string s.data.toList) (.held z) = .held ((m s).getD z)
/-- m with v at s. -/
def putS (m : ByteArray → Option Value) (s : ByteArray) (v : Value) : ByteArray → Option Value := fun x => if x = s then some v else m x
theorem putS_same (m : ByteArray → Option Value) (s : ByteArray) (v : Value) : putS m s v s = some v := by simp [putS]
theorem putS_other {m : ByteArray → Option Value} {s x : ByteArray} {v : Value} (h : x ≠ s) : putS m s v x = m x := by simp [putS, h]

section
variable {P : Program} {k e t : TypeId} {w w' : World} {b n : Nat} {m : ByteArray → Option Value}

theorem MapS.made (P : Program) (k : TypeId) (w : World) : MapS P k (w.alloc (.map #[] 0)) w.heap.size 0 (fun _ => none) :=
  ⟨.map [], World.ownsMap_made _ _ _ _, fun _ => ⟨rfl, fun _ => rfl⟩⟩
theorem MapS.lt (h : MapS P k w b n m) : b < w.heap.size := by
  obtain ⟨D, h1, _⟩ := h
  exact h1.lt
theorem MapS.blk (h : MapS P k w b n m) : ∃ es clock, w.heap[b]? = some (.map es clock) := by
  obtain ⟨D, ⟨es, clock, hb, _⟩, _⟩ := h
  exact ⟨es, clock, hb⟩
theorem MapS.keep {F : Nat → Prop} (h : MapS P k w b n m) (hk : Kept F w w') (hF : F b) : MapS P k w' b n m := by
  have hl := h.lt
  obtain ⟨D, ⟨es, clock, hb, F', hs, hD⟩, h3⟩ := h
  exact ⟨D, ⟨es, clock, (hk.block b hl hF).trans hb, F', hs, hD⟩, h3⟩
theorem MapS.up {n' : Nat} (h : MapS P k w b n m) (hn : n ≤ n') : MapS P k w b n' m := by
  obtain ⟨D, h1, h3⟩ := h
  exact ⟨D, h1.mono hn, h3⟩
theorem MapS.congr {m' : ByteArray → Option Value} (h : MapS P k w b n m) (hm : ∀ s, m s = m' s) : MapS P k w b n m' := by
  have : m = m' := funext hm
  rw [← this]; exact h
theorem MapS.look (h : MapS P k w b n m) (hk : P.underlying k = some .string) (ht : P.underlying t = some (.map k e)) {z : Value} (hz : (zeroValue e).run P w = .ok z w) (s : ByteArray) (hs : s.size ≤ 1000000) :
    (Instr.lookup t (.map (some b)) (.string s) false).run P w = .ok ((m s).getD z) w := by
  obtain ⟨D, h1, h3⟩ := h
  obtain ⟨v, ps, hrun, hv⟩ := h1.lookup (Go.Maps.string_keyed hk) ht hz (heldR_mk z) (Go.WideMaps.keyOf_string_mk hk (show s.size ≤ maxLen by unfold maxLen; omega))
  rw [(h3 s).2 z] at hv
  simp only [heldR, Option.some.injEq, Prod.mk.injEq, DataW.held.injEq] at hv
  rw [hrun, hv.1]
theorem MapS.look_ok (h : MapS P k w b n m) (hk : P.underlying k = some .string) (ht : P.underlying t = some (.map k e)) {z : Value} (hz : (zeroValue e).run P w = .ok z w) (s : ByteArray) (hs : s.size ≤ 1000000) :
    (Instr.lookup t (.map (some b)) (.string s) true).run P w = .ok (.tuple #[(m s).getD z, .bool (m s).isSome]) w := by
  obtain ⟨D, h1, h3⟩ := h
  obtain ⟨v, ps, hrun, hv⟩ := h1.look_ok (Go.Maps.string_keyed hk) ht hz (heldR_mk z) (Go.WideMaps.keyOf_string_mk hk (show s.size ≤ maxLen by unfold maxLen; omega))
  rw [(h3 s).2 z] at hv
  simp only [heldR, Option.some.injEq, Prod.mk.injEq, DataW.held.injEq] at hv
  rw [hrun, hv.1, (h3 s).1]
theorem MapS.put (h : MapS P k w b n m) (hk : P.underlying k = some .string) (ht : P.underlying t = some (.map k e)) (hn : n ≤ 1000000) (s : ByteArray) (hs : s.size ≤ 1000000) (v : Value) :
    ∃ w', (Instr.mapUpdate t (.map (some b)) (.string s) v).run P w = .ok () w' ∧ MapS P k w' b (n + 1) (putS m s v) ∧ But b w w' := by
  obtain ⟨D, h1, h3⟩ := h
  have hM := h1.isMap
  obtain ⟨w', hrun, h4, hg⟩ := h1.update (Go.Maps.string_keyed hk) ht (show n < maxLen by unfold maxLen; omega) (Go.WideMaps.keyOf_string_mk hk (show s.size ≤ maxLen by unfold maxLen; omega)) (heldR_mk v)
  refine ⟨w', hrun, ⟨_, h4, fun x => ?_⟩, (Kept.refl _ _).grown hg (fun k hk => by cases hk; exact Or.inr (by simp))⟩
  by_cases hx : x = s
  · subst hx
    have hkl : WideAt.IsKeyLit (.string x.data.toList) := by simp [WideAt.IsKeyLit]
    refine ⟨?_, fun z => ?_⟩
    · rw [Go.Maps.has_put_same hM hkl, putS_same]; rfl
    · rw [Go.Maps.atKey_put_same hM hkl, putS_same]; rfl
  · have hne : (Lit.string x.data.toList) ≠ .string s.data.toList := fun e => hx (Go.WideShapes.bytes_inj (by injection e))
    refine ⟨?_, fun z => ?_⟩
    · rw [Go.Maps.has_put_other hne, putS_other hx, (h3 x).1]
    · rw [Go.Maps.atKey_put_other hne, putS_other hx, (h3 x).2]
end

/-- A range over the map in block b is under way (its iterator is block r): left says which strings are still to come. -/
def RangeS (P : Program) (k : TypeId) (w : World) (b r n : Nat) (m : ByteArray → Option Value) (left : ByteArray → Bool) (cnt : Nat) : Prop :=
  ∃ (D : DataW Value) (lf : Lit → Bool), w.ranges P k heldR b r n D lf cnt ∧ (∀ s : ByteArray, Maps.has D (.string s.data.toList) = (m s).isSome ∧ ∀ z, D.atKey (.string s.data.toList) (.held z) = .held ((m s).getD z)) ∧ ∀ s : ByteArray, lf (.string s.data.toList) = left s
theorem keyOf_string_inv {P : Program} {k : TypeId} (hk : P.underlying k = some .string) {key : Value} {kl : Lit} (h : keyOf P k key = some kl) : ∃ s : ByteArray, key = .string s ∧ kl = .string s.data.toList ∧ s.size ≤ maxLen := by
  cases key <;> simp [keyOf, hk, mapKey] at h
  obtain ⟨hw, rfl⟩ := h
  exact ⟨_, rfl, rfl, hw⟩

section
variable {P : Program} {k e t : TypeId} {w w' : World} {b r n cnt : Nat} {m : ByteArray → Option Value} {left : ByteArray → Bool}
theorem RangeS.map (h : RangeS P k w b r n m left cnt) : MapS P k w b n m := by
  obtain ⟨D, lf, h1, h2, h3⟩ := h
  exact ⟨D, h1.owns, h2⟩
theorem RangeS.left_eq (h : RangeS P k w b r n m left cnt) : w.rangeLeft b r = cnt := by
  obtain ⟨D, lf, h1, h2, h3⟩ := h
  exact h1.left_eq
theorem RangeS.ne (h : RangeS P k w b r n m left cnt) : r ≠ b := by
  obtain ⟨D, lf, h1, h2, h3⟩ := h
  exact h1.ne
theorem RangeS.lt (h : RangeS P k w b r n m left cnt) : r < w.heap.size := by
  obtain ⟨D, lf, h1, h2, h3⟩ := h
  exact h1.lt
theorem RangeS.iter (h : RangeS P k w b r n m left cnt) : ∃ a b c d, w.heap[r]? = some (.mapIter a b c d) := by
  obtain ⟨D, lf, ⟨es, clock, since, seen, c0, hb, F, hs, hD, hr, _⟩, h2, h3⟩ := h
  exact ⟨_, _, _, _, hr⟩
theorem RangeS.keep {F : Nat → Prop} (h : RangeS P k w b r n m left cnt) (hk : Kept F w w') (hb' : F b) (hr' : F r) : RangeS P k w' b r n m left cnt := by
  have hbl := h.map.lt
  have hrl := h.lt
  obtain ⟨D, lf, ⟨es, clock, since, seen, c0, hb, F, hs, hD, hr, rest⟩, h2, h3⟩ := h
  exact ⟨D, lf, ⟨es, clock, since, seen, c0, (hk.block b hbl hb').trans hb, F, hs, hD, (hk.block r hrl hr').trans hr, rest⟩, h2, h3⟩
theorem MapS.range (h : MapS P k w b n m) (hk : P.underlying k = some .string) (ht : P.underlying t = some (.map k e)) :
    ∃ w' cnt, (Instr.range t (.map (some b))).run P w = .ok (.pointer (some ⟨w.heap.size, 0, none⟩)) w' ∧ RangeS P k w' b w.heap.size n m (fun s => (m s).isSome) cnt ∧ All w w' ∧ w'.heap.size = w.heap.size + 1 := by
  obtain ⟨D, h1, h3⟩ := h
  obtain ⟨w', hrun, h4, hg, hsz⟩ := h1.range (Go.Maps.string_keyed hk) ht
  exact ⟨w', _, hrun, ⟨D, _, h4, h3, fun s => (h3 s).1⟩, (Kept.refl _ _).grown hg (fun k hk => by cases hk), hsz⟩
/-- The next step: nothing is left, or one of those left comes. -/
theorem RangeS.next (h : RangeS P k w b r n m left cnt) (hk : P.underlying k = some .string) (ty : TypeId) :
    ((∀ s : ByteArray, left s = false) ∧ (Instr.next (.pointer (some ⟨r, 0, none⟩)) false ty).run P w = .ok (.tuple #[.bool false]) w) ∨
    ∃ (s : ByteArray) (v : Value) (w' : World) (cnt' : Nat), left s = true ∧ m s = some v ∧ (Instr.next (.pointer (some ⟨r, 0, none⟩)) false ty).run P w = .ok (.tuple #[.bool true, .string s, v]) w' ∧
      RangeS P k w' b r n m (fun x => left x && !decide (x = s)) cnt' ∧ cnt' < cnt ∧ But r w w' ∧ w'.heap.size = w.heap.size ∧ (Instr.entry (.pointer (some ⟨r, 0, none⟩))).run P w' = .ok (.tuple #[.string s, v]) w' := by
  obtain ⟨D, lf, h1, h2, h3⟩ := h
  rcases h1.next (Go.Maps.string_keyed hk) ty with ⟨-, hl, hrun⟩ | ⟨key, v, kl, y, w', cnt', hkey, hlk, hv, hat, hrun, hrg, hlt, hgr, hsz, hen⟩
  · exact Or.inl ⟨fun s => by rw [← h3 s]; exact hl _, hrun⟩
  · obtain ⟨s, rfl, rfl, -⟩ := keyOf_string_inv hk hkey
    have hy : y = (.held v, []) := by
      have := heldR_mk v
      rw [hv] at this
      injection this
    subst hy
    have hms : m s = some v := by
      have e0 := hat (.held v)
      rw [(h2 s).2] at e0
      have hh : Maps.has D (.string s.data.toList) = true := Go.Maps.has_true_of_atKey hat
      rw [(h2 s).1] at hh
      obtain ⟨u, hu⟩ := Option.isSome_iff_exists.1 hh
      rw [hu] at e0 ⊢
      simp only [Option.getD_some, DataW.held.injEq] at e0
      rw [e0]
    refine Or.inr ⟨s, v, w', cnt', by rw [← h3 s]; exact hlk, hms, hrun, ⟨D, _, hrg, h2, fun x => ?_⟩, hlt, (Kept.refl _ _).grown hgr (fun k hk => by cases hk; exact Or.inr (by simp)), hsz, hen⟩
    show (lf (.string x.data.toList) && !(Lit.string x.data.toList).sameKey (.string s.data.toList)) = _
    rw [h3 x]
    congr 1
    by_cases hx : x = s
    · subst hx
      rw [WideAt.sameKey_self (by simp [WideAt.IsKeyLit])]
      simp
    · rw [Go.Maps.sameKey_ne (fun e => hx (Go.WideShapes.bytes_inj (by injection e)))]
      simp [hx]
end
end Go.Proofs.YtbpbhpmkganefaaGreatDoor

/- Maps of the call's own whose keys are pairs of strings ([2]string), with whatever values; an element that is appended to in its place; ranging over them. No program in sight. -/
namespace Go.Proofs.YtbpbhpmkganefaaGreatDoor
open Go.RowKit
open Go.Maps (Keyed IsMap)
open Go.WideMaps (ArrKey)

/-- A key: two strings. -/
abbrev K2 : Type := ByteArray × ByteArray
def valK (q : K2) : Value := .agg #[.string q.1, .string q.2]
def litK (q : K2) : Lit := .string (keyBytes [.string q.1.data.toList, .string q.2.data.toList])
def okK (q : K2) : Prop := q.1.size ≤ 1000000 ∧ q.2.size ≤ 1000000
/-- k is the type [2]string. -/
structure IsK2 (P : Program) (k : TypeId) : Prop where
  arr : ∃ e, ArrKey P k e 2 ∧ P.underlying e = some .string
  sz : ∃ m, P.types.size = m + 1
theorem valK_inj {a b : K2} (h : valK a = valK b) : a = b := by
  unfold valK at h
  simp only [Value.agg.injEq, Array.mk.injEq, List.cons.injEq, Value.string.injEq, and_true] at h
  exact Prod.ext h.1 h.2
section
variable {P : Program} {k : TypeId}
theorem IsK2.law (h : IsK2 P k) : WideMaps.KeyLaw P k := by
  obtain ⟨e, A, -⟩ := h.arr
  exact A.law
theorem IsK2.keyed (h : IsK2 P k) : Keyed P k := Keyed.of_law h.law
theorem IsK2.key (h : IsK2 P k) {q : K2} (hq : okK q) : keyOf P k (valK q) = some (litK q) := by
  obtain ⟨e, A, he⟩ := h.arr
  have hkt := A.keyType h.sz
  obtain ⟨m, hm⟩ := h.sz
  unfold keyOf valK
  simp only [A.hu]
  rw [if_pos (by simp [hkt, Value.formed, A.hu, A.size]), hm]
  unfold Program.keyLits
  simp only [A.hu, Value.cells]
  rw [if_pos (by rw [A.size]; rfl), show List.range 2 = [0, 1] from rfl, List.mapM_cons, List.mapM_cons, List.mapM_nil]
  have h1 : q.1.size ≤ maxLen := by have := hq.1; unfold maxLen; omega
  have h2 : q.2.size ≤ maxLen := by have := hq.2; unfold maxLen; omega
  simp [A.one, Program.keyLits, he, h1, h2, litK]
theorem IsK2.litInj (h : IsK2 P k) {a b : K2} (ha : okK a) (hb : okK b) (e : litK a = litK b) : a = b :=
  valK_inj (h.keyed.inj (h.key ha) (by rw [e]; exact h.key hb))
end
theorem litK_key (q : K2) : WideAt.IsKeyLit (litK q) := by simp [litK, WideAt.IsKeyLit]

/-- What a map's datum says. -/
def SaysK (D : DataW Value) (m : K2 → Option Value) : Prop :=
  (∀ q, okK q → Maps.has D (litK q) = (m q).isSome ∧ ∀ z, D.atKey (litK q) (.held z) = .held ((m q).getD z)) ∧ ∀ l, Maps.has D l = true → ∃ q, okK q ∧ l = litK q
/-- Block b is a map of at most n entries; m says what lies at a pair of strings. -/
def MapK (P : Program) (k : TypeId) (w : World) (b n : Nat) (m : K2 → Option Value) : Prop :=
  ∃ D : DataW Value, w.ownsMap P k heldR b n D ∧ SaysK D m
open Classical in
/-- m with v at s. -/
noncomputable def putK (m : K2 → Option Value) (s : K2) (v : Value) : K2 → Option Value := fun x => if x = s then some v else m x
theorem putK_same (m : K2 → Option Value) (s : K2) (v : Value) : putK m s v s = some v := by simp [putK]
theorem putK_other {m : K2 → Option Value} {s x : K2} {v : Value} (h : x ≠ s) : putK m s v x = m x := by simp [putK, h]

theorem one_entry : ∀ {l : List MapEntry} {a b : MapEntry}, l.Pairwise (fun x y => x.key ≠ y.key) → a ∈ l → b ∈ l → a.key = b.key → a = b
  | [], _, _, _, h, _, _ => by cases h
  | x :: l, a, b, hp, ha, hb, e => by
    obtain ⟨h1, h2⟩ := List.pairwise_cons.1 hp
    rcases List.mem_cons.1 ha with ea | ha'
    · rcases List.mem_cons.1 hb with eb | hb'
      · rw [ea, eb]
      · exact absurd (by rw [← ea]; exact e) (h1 b hb')
    · rcases List.mem_cons.1 hb with eb | hb'
      · exact absurd (by rw [← eb]; exact e.symm) (h1 a ha')
      · exact one_entry h2 ha' hb' e
section
variable {P : Program} {k e t : TypeId} {w w' : World} {b n : Nat} {m : K2 → Option Value}
theorem SaysK.put (hK : IsK2 P k) {D : DataW Value} (hM : IsMap D) (h : SaysK D m) {q : K2} (hq : okK q) (v : Value) : SaysK (D.put (litK q) (.held v)) (putK m q v) := by
  refine ⟨fun x hx => ?_, fun l hl => ?_⟩
  · by_cases hxq : x = q
    · subst hxq
      refine ⟨?_, fun z => ?_⟩
      · rw [Go.Maps.has_put_same hM (litK_key x), putK_same]; rfl
      · rw [Go.Maps.atKey_put_same hM (litK_key x), putK_same]; rfl
    · have hne : litK x ≠ litK q := fun e => hxq (hK.litInj hx hq e)
      refine ⟨?_, fun z => ?_⟩
      · rw [Go.Maps.has_put_other hne, putK_other hxq, (h.1 x hx).1]
      · rw [Go.Maps.atKey_put_other hne, putK_other hxq, (h.1 x hx).2]
  · by_cases hlq : l = litK q
    · exact ⟨q, hq, hlq⟩
    · rw [Go.Maps.has_put_other hlq] at hl
      exact h.2 l hl
theorem MapK.made (P : Program) (k : TypeId) (w : World) : MapK P k (w.alloc (.map #[] 0)) w.heap.size 0 (fun _ => none) :=
  ⟨.map [], World.ownsMap_made _ _ _ _, fun _ _ => ⟨rfl, fun _ => rfl⟩, fun l h => by simp [Maps.has] at h⟩
theorem MapK.lt (h : MapK P k w b n m) : b < w.heap.size := by
  obtain ⟨D, h1, _⟩ := h
  exact h1.lt
theorem MapK.keep {F : Nat → Prop} (h : MapK P k w b n m) (hk : Kept F w w') (hF : F b) : MapK P k w' b n m := by
  have hl := h.lt
  obtain ⟨D, ⟨es, clock, hb, F', hs, hD⟩, h3⟩ := h
  exact ⟨D, ⟨es, clock, (hk.block b hl hF).trans hb, F', hs, hD⟩, h3⟩
theorem MapK.congr {m' : K2 → Option Value} (h : MapK P k w b n m) (hm : ∀ s, m s = m' s) : MapK P k w b n m' := by
  have : m = m' := funext hm
  rw [← this]; exact h
theorem MapK.up {n' : Nat} (h : MapK P k w b n m) (hn : n ≤ n') : MapK P k w b n' m := by
  obtain ⟨D, h1, h3⟩ := h
  exact ⟨D, h1.mono hn, h3⟩
/-- An element is taken out to be appended to, and put back. -/
theorem MapK.entry (h : MapK P k w b n m) (hK : IsK2 P k) (ht : P.underlying t = some (.map k e)) {z : Value} (hz : ∀ u : World, (zeroValue e).run P u = .ok z u) (hn : n ≤ 1000000) {q : K2} (hq : okK q) :
    ∃ (st : Nat) (w1 : World), (Instr.mapEntry t (.map (some b)) (valK q)).run P w = .ok (.tuple #[(m q).getD z, goInt st]) w1 ∧ But b w w1 ∧ w1.heap.size = w.heap.size ∧
      ∀ (w2 : World) (v : Value), w2.heap[b]? = w1.heap[b]? → ∃ w3, (Instr.entryStore t (.map (some b)) (goInt st) v).run P w2 = .ok () w3 ∧ MapK P k w3 b (n + 1) (putK m q v) ∧ But b w2 w3 ∧ w3.heap.size = w2.heap.size := by
  obtain ⟨D, h1, h3⟩ := h
  have hM := h1.isMap
  have hup := fun v : Value => h1.update hK.keyed ht (show n < maxLen by unfold maxLen; omega) (hK.key hq) (heldR_mk v)
  have hlk := h1.lookup hK.keyed ht (hz w) (heldR_mk z) (hK.key hq)
  obtain ⟨v1, ps, hlook, hv1⟩ := hlk
  rw [(h3.1 q hq).2 z] at hv1
  simp only [heldR, Option.some.injEq, Prod.mk.injEq, DataW.held.injEq] at hv1
  obtain ⟨es, clock, hb, F', hs, hD⟩ := h1
  obtain ⟨v0, st, es1, clock1, hme, hv0, hst⟩ := WideElems.entry_then_store hK.law ht hz hb F' (hK.key hq)
  have hbut : ∀ (wx : World) (o : Obj), b < wx.heap.size → But b wx (ChangeMaps.setBlock wx b o) ∧ (ChangeMaps.setBlock wx b o).heap.size = wx.heap.size ∧ (ChangeMaps.setBlock wx b o).heap[b]? = some o := fun wx o hlt => by
    refine ⟨⟨rfl, rfl, rfl, by simp [ChangeMaps.setBlock], fun i hi hne => ?_⟩, by simp [ChangeMaps.setBlock], by simp [ChangeMaps.setBlock, hlt]⟩
    have hne' : b ≠ i := fun e => hne e.symm
    simp [ChangeMaps.setBlock, hne']
  have hbl := (Array.getElem?_eq_some_iff.1 hb).1
  have hv : v0 = (m q).getD z := by
    have hpw : es.toList.Pairwise (fun x y => x.key ≠ y.key) := ((MapKept.stamped_iff es clock).1 F'.stamped).2.2
    rcases Maps.fit_look false hK.keyed ht (hz w) hb F' (hK.key hq) with ⟨hr, hno, -⟩ | ⟨e0, y, hm0, hk0, hr, -⟩
    · rw [hlook] at hr
      simp only [if_false, Result.ok.injEq, and_true, Bool.false_eq_true] at hr
      rcases hv0 with ⟨e1, hm1, hk1, -⟩ | ⟨-, h0⟩
      · exact absurd hk1 (hno e1 hm1)
      · rw [h0, ← hv1.1]; exact hr.symm
    · rw [hlook] at hr
      simp only [if_false, Result.ok.injEq, and_true, Bool.false_eq_true] at hr
      rcases hv0 with ⟨e1, hm1, hk1, h0⟩ | ⟨hno, -⟩
      · rw [h0, one_entry hpw hm1 hm0 (hk1.trans hk0.symm), ← hv1.1]; exact hr.symm
      · exact absurd hk0 (hno e0 hm0)
  obtain ⟨b1, b2, b3⟩ := hbut w (.map es1 clock1) hbl
  refine ⟨st, _, by rw [← hv]; exact hme, b1, b2, fun w2 v hw2 => ?_⟩
  rw [b3] at hw2
  obtain ⟨es', clock', hr1, hr2⟩ := hst w2 v hw2
  obtain ⟨wu, hru, hown, -⟩ := hup v
  rw [hr2] at hru
  cases hru
  have hl2 := (Array.getElem?_eq_some_iff.1 hw2).1
  obtain ⟨c1, c2, c3⟩ := hbut w2 (.map es' clock') hl2
  refine ⟨_, hr1, ⟨_, ?_, SaysK.put hK hM h3 hq v⟩, c1, c2⟩
  obtain ⟨es2, clock2, hb2, F2, hs2, hD2⟩ := hown
  obtain ⟨-, -, d3⟩ := hbut w (.map es' clock') hbl
  rw [d3] at hb2
  exact ⟨es2, clock2, c3.trans hb2, F2, hs2, hD2⟩
end

/-- A range over the map in block b is under way (its iterator is block r): left says which keys are still to come. -/
def RangeK (P : Program) (k : TypeId) (w : World) (b r n : Nat) (m : K2 → Option Value) (left : K2 → Prop) (cnt : Nat) : Prop :=
  ∃ (D : DataW Value) (lf : Lit → Bool), w.ranges P k heldR b r n D lf cnt ∧ SaysK D m ∧ ∀ q, okK q → (lf (litK q) = true ↔ left q)
section
variable {P : Program} {k e t : TypeId} {w w' : World} {b r n cnt : Nat} {m : K2 → Option Value} {left : K2 → Prop}
theorem RangeK.left_eq (h : RangeK P k w b r n m left cnt) : w.rangeLeft b r = cnt := by
  obtain ⟨D, lf, h1, h2, h3⟩ := h
  exact h1.left_eq
theorem RangeK.map (h : RangeK P k w b r n m left cnt) : MapK P k w b n m := by
  obtain ⟨D, lf, h1, h2, h3⟩ := h
  exact ⟨D, h1.owns, h2⟩
theorem RangeK.ne (h : RangeK P k w b r n m left cnt) : r ≠ b := by
  obtain ⟨D, lf, h1, h2, h3⟩ := h
  exact h1.ne
theorem RangeK.lt (h : RangeK P k w b r n m left cnt) : r < w.heap.size := by
  obtain ⟨D, lf, h1, h2, h3⟩ := h
  exact h1.lt
theorem RangeK.keep {F : Nat → Prop} (h : RangeK P k w b r n m left cnt) (hk : Kept F w w') (hb' : F b) (hr' : F r) : RangeK P k w' b r n m left cnt := by
  have hbl := h.map.lt
  have hrl := h.lt
  obtain ⟨D, lf, ⟨es, clock, since, seen, c0, hb, F, hs, hD, hr, rest⟩, h2, h3⟩ := h
  exact ⟨D, lf, ⟨es, clock, since, seen, c0, (hk.block b hbl hb').trans hb, F, hs, hD, (hk.block r hrl hr').trans hr, rest⟩, h2, h3⟩
theorem MapK.range (h : MapK P k w b n m) (hK : IsK2 P k) (ht : P.underlying t = some (.map k e)) :
    ∃ w' cnt, (Instr.range t (.map (some b))).run P w = .ok (.pointer (some ⟨w.heap.size, 0, none⟩)) w' ∧ RangeK P k w' b w.heap.size n m (fun q => (m q).isSome = true) cnt ∧ All w w' ∧ w'.heap.size = w.heap.size + 1 := by
  obtain ⟨D, h1, h3⟩ := h
  obtain ⟨w', hrun, h4, hg, hsz⟩ := h1.range hK.keyed ht
  exact ⟨w', _, hrun, ⟨D, _, h4, h3, fun q hq => by rw [(h3.1 q hq).1]⟩, (Kept.refl _ _).grown hg (fun k hk => by cases hk), hsz⟩
/-- The next step: nothing is left, or one of those left comes. -/
theorem RangeK.next (h : RangeK P k w b r n m left cnt) (hK : IsK2 P k) (ty : TypeId) :
    ((∀ q, okK q → ¬ left q) ∧ (Instr.next (.pointer (some ⟨r, 0, none⟩)) false ty).run P w = .ok (.tuple #[.bool false]) w) ∨
    ∃ (q : K2) (v : Value) (w' : World) (cnt' : Nat), okK q ∧ left q ∧ m q = some v ∧ (Instr.next (.pointer (some ⟨r, 0, none⟩)) false ty).run P w = .ok (.tuple #[.bool true, valK q, v]) w' ∧
      RangeK P k w' b r n m (fun x => left x ∧ x ≠ q) cnt' ∧ cnt' < cnt ∧ But r w w' ∧ w'.heap.size = w.heap.size ∧ (Instr.entry (.pointer (some ⟨r, 0, none⟩))).run P w' = .ok (.tuple #[valK q, v]) w' := by
  obtain ⟨D, lf, h1, h2, h3⟩ := h
  rcases h1.next hK.keyed ty with ⟨-, hl, hrun⟩ | ⟨key, v, kl, y, w', cnt', hkey, hlk, hv, hat, hrun, hrg, hlt, hgr, hsz, hen⟩
  · exact Or.inl ⟨fun q hq hlq => by (rw [← h3 q hq, hl] at hlq; cases hlq), hrun⟩
  · obtain ⟨q, hq, rfl⟩ := h2.2 kl (Go.Maps.has_true_of_atKey hat)
    obtain rfl : key = valK q := hK.keyed.inj hkey (hK.key hq)
    have hy : y = (.held v, []) := by
      have := heldR_mk v
      rw [hv] at this
      injection this
    subst hy
    have hms : m q = some v := by
      have e0 := hat (.held v)
      rw [(h2.1 q hq).2] at e0
      have hh : Maps.has D (litK q) = true := Go.Maps.has_true_of_atKey hat
      rw [(h2.1 q hq).1] at hh
      obtain ⟨u, hu⟩ := Option.isSome_iff_exists.1 hh
      rw [hu] at e0 ⊢
      simp only [Option.getD_some, DataW.held.injEq] at e0
      rw [e0]
    refine Or.inr ⟨q, v, w', cnt', hq, (h3 q hq).1 hlk, hms, hrun, ⟨D, _, hrg, h2, fun x hx => ?_⟩, hlt, (Kept.refl _ _).grown hgr (fun k hk => by cases hk; exact Or.inr (by simp)), hsz, hen⟩
    show ((lf (litK x) && !(litK x).sameKey (litK q)) = true) ↔ _
    rw [Bool.and_eq_true, h3 x hx]
    by_cases hxq : x = q
    · subst hxq
      rw [WideAt.sameKey_self (litK_key x)]
      simp
    · rw [Go.Maps.sameKey_ne (fun e => hxq (hK.litInj hx hq e))]
      simp [hxq]
end
end Go.Proofs.YtbpbhpmkganefaaGreatDoor

/- Maps from pairs of strings to rows of the call's own, of whatever flat elements. No program in sight. -/
namespace Go.Proofs.YtbpbhpmkganefaaGreatDoor
open Go.RowKit

open Classical in
/-- f, but y at p. -/
noncomputable def updK {β : Type} (f : K2 → β) (p : K2) (y : β) : K2 → β := fun q => if q = p then y else f q
theorem updK_same {β : Type} (f : K2 → β) (p : K2) (y : β) : updK f p y p = y := by simp [updK]
theorem updK_other {β : Type} {f : K2 → β} {p q : K2} {y : β} (h : q ≠ p) : updK f p y q = f q := by simp [updK, h]
/-- The map in block mb holds, at each pair that has elements, a row of the call's own (from block B on) with the elements f. -/
structure RowK {α : Type} (P : Program) (tk : TypeId) (R : Rel α) (sz : Nat) (T : TypeId) (w : World) (B mb n : Nat) (vals : K2 → Value) (f : K2 → List α) : Prop where
  map : MapK P tk w mb n (fun p => if (f p).isEmpty = true then none else some (vals p))
  acc : ∀ p, Acc R sz T (fun _ => False) B w (vals p) (f p)
  nil : ∀ p, f p = [] → vals p = .slice none 0 0
  sep : ∀ p q k, p ≠ q → (vals p).ownBlock = some k → (vals q).ownBlock ≠ some k
section
variable {α : Type} {P : Program} {tk : TypeId} {R : Rel α} {enc : α → List Value} {S : α → Prop} {sz : Nat} {T : TypeId} {w w' w2 : World} {B mb n : Nat} {vals : K2 → Value} {f : K2 → List α}
theorem RowK.start (P : Program) (tk : TypeId) (R : Rel α) (sz : Nat) (T : TypeId) (w : World) (B : Nat) : RowK P tk R sz T (w.alloc (.map #[] 0)) B w.heap.size 0 (fun _ => .slice none 0 0) (fun _ => []) :=
  ⟨(MapK.made P tk w).congr (fun _ => by simp), fun _ => Acc.nil _ _ _ _ _ _, fun _ _ => rfl, fun p q k _ h => by simp [Value.ownBlock] at h⟩
theorem RowK.keep (hR : Flat R enc S sz) (h : RowK P tk R sz T w B mb n vals f) (k : All w w') : RowK P tk R sz T w' B mb n vals f :=
  ⟨h.map.keep k trivial, fun p => (h.acc p).keepAll hR.ok k, h.nil, h.sep⟩
/-- Only blocks that are none of the rows, and not the map, are written to. -/
theorem RowK.keepG (hR : Flat R enc S sz) {G : Nat → Prop} (h : RowK P tk R sz T w B mb n vals f) (k : Kept G w w') (hm : G mb) (hG : ∀ p i, (vals p).ownBlock = some i → G i) : RowK P tk R sz T w' B mb n vals f :=
  ⟨h.map.keep k hm, fun p => (h.acc p).flatKeep hR k (hG p), h.nil, h.sep⟩
theorem RowK.getD (h : RowK P tk R sz T w B mb n vals f) (p : K2) : ((fun p => if (f p).isEmpty = true then none else some (vals p)) p).getD (.slice none 0 0) = vals p := by
  by_cases hf : f p = []
  · simp [hf, h.nil p hf]
  · simp [hf]
/-- A row is taken out, one element is appended, the row is put back. -/
theorem RowK.entry (hR : Flat R enc S sz) (h : RowK P tk R sz T w B mb n vals f) {t te : TypeId} (hK : IsK2 P tk) (ht : P.underlying t = some (.map tk te)) (hz : ∀ u : World, (zeroValue te).run P u = .ok (.slice none 0 0) u) (hmB : mb < B) (hn : n ≤ 1000000) {q : K2} (hq : okK q) :
    ∃ (st : Nat) (w1 : World), (Instr.mapEntry t (.map (some mb)) (valK q)).run P w = .ok (.tuple #[vals q, goInt st]) w1 ∧ But mb w w1 ∧ w1.heap.size = w.heap.size ∧ Acc R sz T (fun _ => False) B w1 (vals q) (f q) ∧
      ∀ (w2 : World) (v : Value) (x : α), w1.grownBy w2 (vals q).ownBlock → Acc R sz T (fun _ => False) B w2 v (f q ++ [x]) → (v.ownBlock = (vals q).ownBlock ∨ v.ownBlock = some w1.heap.size) →
        ∃ w3, (Instr.entryStore t (.map (some mb)) (goInt st) v).run P w2 = .ok () w3 ∧ RowK P tk R sz T w3 B mb (n + 1) (updK vals q v) (updK f q (f q ++ [x])) ∧ But mb w2 w3 ∧ w3.heap.size = w2.heap.size := by
  obtain ⟨st, w1, hrun, hb1, hs1, hst⟩ := h.map.entry hK ht hz hn hq
  rw [h.getD q] at hrun
  have hneb : ∀ p i, (vals p).ownBlock = some i → i ≠ mb := fun p i hi => by have := ((h.acc p).lt i hi).1; omega
  refine ⟨st, w1, hrun, hb1, hs1, (h.acc q).flatKeep hR hb1 (hneb q), fun w2 v x hg hacc hat => ?_⟩
  have hkp : Kept (fun k => (vals q).ownBlock ≠ some k) w1 w2 := ⟨hg.os, hg.tape, hg.output, hg.size, fun k hk hf => hg.block k hk (fun e => hf e.symm)⟩
  have hmlt := h.map.lt
  obtain ⟨w3, hrun3, hmap3, hb3, hs3⟩ := hst w2 v (hkp.block mb (by omega) (fun e => hneb q mb e rfl))
  refine ⟨w3, hrun3, ⟨hmap3.congr (fun p => ?_), fun p => ?_, fun p hp => ?_, fun a b k hab ha => ?_⟩, hb3, hs3⟩
  · by_cases hpq : p = q
    · subst hpq; simp [putK, updK]
    · simp [putK, updK, hpq]
  · by_cases hpq : p = q
    · subst hpq
      rw [updK_same, updK_same]
      exact hacc.flatKeep hR hb3 (fun k hk => by have := (hacc.lt k hk).1; omega)
    · rw [updK_other hpq, updK_other hpq]
      have h0 := (h.acc p).flatKeep hR hb1 (hneb p)
      have h1 := h0.flatKeep hR hkp (fun k hk e => h.sep p q k hpq hk e)
      exact h1.flatKeep hR hb3 (hneb p)
  · by_cases hpq : p = q
    · subst hpq; rw [updK_same] at hp; simp at hp
    · rw [updK_other hpq] at hp ⊢
      exact h.nil p hp
  · by_cases haq : a = q
    · subst haq
      have hba : b ≠ a := fun e => hab e.symm
      rw [updK_same] at ha
      rw [updK_other hba]
      rcases hat with e | e
      · rw [e] at ha; exact h.sep a b k hab ha
      · rw [e] at ha
        cases ha
        intro hk
        have := ((h.acc b).lt _ hk).2
        omega
    · rw [updK_other haq] at ha
      by_cases hbq : b = q
      · subst hbq
        rw [updK_same]
        intro hk
        rcases hat with e | e
        · rw [e] at hk; exact h.sep a b k hab ha hk
        · rw [e] at hk
          cases hk
          have := ((h.acc a).lt _ ha).2
          omega
      · rw [updK_other hbq]
        exact h.sep a b k hab ha
end
end Go.Proofs.YtbpbhpmkganefaaGreatDoor
