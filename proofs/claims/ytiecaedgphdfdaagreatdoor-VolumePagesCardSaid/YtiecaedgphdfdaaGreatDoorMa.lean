/- A map[string]bool of the call's own, used as a set of strings. No program in sight. -/
import Derived.Test.YtiecaedgphdfdaaGreatDoorKa
import Derived.Maps.OwnOps
import Derived.Maps.Views
import Derived.StringKeys
namespace Go.Proofs.YtiecaedgphdfdaaGreatDoor
open Go.RowKit
open Go.Maps (Keyed IsMap)

/-- Block b is a map[string]bool of at most n entries; it says true of the strings ks alone. -/
def SetM (P : Program) (k e : TypeId) (w : World) (b n : Nat) (ks : List ByteArray) : Prop :=
  ∃ D : DataW Unit, w.ownsMap P k (plainElem P e) b n D ∧ IsMap D ∧ ∀ s : ByteArray, D.atKey (.string s.data.toList) (.lit (.bool false)) = .lit (.bool (memB s ks))

theorem plainElem_bool_inv {P : Program} {e : TypeId} (he : P.underlying e = some .bool) {v : Value} {z : DataW Unit × List MemPlace} (h : plainElem P e v = some z) : ∃ x, v = .bool x ∧ z = (.lit (.bool x), []) := by
  unfold plainElem at h
  rw [he] at h
  cases v <;> simp at h
  exact ⟨_, rfl, h.symm⟩

section
variable {P : Program} {k e t : TypeId} {w w' : World} {b n : Nat} {ks : List ByteArray}

theorem SetM.made (P : Program) (k e : TypeId) (w : World) : SetM P k e (w.alloc (.map #[] 0)) w.heap.size 0 [] :=
  ⟨.map [], World.ownsMap_made _ _ _ _, Go.Maps.isMap_empty, fun _ => rfl⟩
theorem SetM.lt (h : SetM P k e w b n ks) : b < w.heap.size := by
  obtain ⟨D, h1, _⟩ := h
  exact h1.lt
theorem SetM.keep {F : Nat → Prop} (h : SetM P k e w b n ks) (hk : Kept F w w') (hF : F b) : SetM P k e w' b n ks := by
  have hl := h.lt
  obtain ⟨D, ⟨es, clock, hb, F', hs, hD⟩, h2, h3⟩ := h
  exact ⟨D, ⟨es, clock, (hk.block b hl hF).trans hb, F', hs, hD⟩, h2, h3⟩
theorem SetM.look (h : SetM P k e w b n ks) (hk : P.underlying k = some .string) (he : P.underlying e = some .bool) (ht : P.underlying t = some (.map k e)) (hz : (zeroValue e).run P w = .ok (.bool false) w) (s : ByteArray) (hs : s.size ≤ 1000000) :
    (Instr.lookup t (.map (some b)) (.string s) false).run P w = .ok (.bool (memB s ks)) w := by
  obtain ⟨D, h1, _, h3⟩ := h
  obtain ⟨v, ps, hrun, hv⟩ := h1.lookup (Go.Maps.string_keyed hk) ht hz (plainElem_bool he false) (Go.WideMaps.keyOf_string_mk hk (show s.size ≤ maxLen by unfold maxLen; omega))
  obtain ⟨x, rfl, hx⟩ := plainElem_bool_inv he hv
  rw [hrun]
  have := congrArg Prod.fst hx
  simp only [h3 s] at this
  injection this with this
  injection this with this
  rw [this]
theorem SetM.put (h : SetM P k e w b n ks) (hk : P.underlying k = some .string) (he : P.underlying e = some .bool) (ht : P.underlying t = some (.map k e)) (hn : n ≤ 1000000) (s : ByteArray) (hs : s.size ≤ 1000000) :
    ∃ w', (Instr.mapUpdate t (.map (some b)) (.string s) (.bool true)).run P w = .ok () w' ∧ SetM P k e w' b (n + 1) (ks ++ [s]) ∧ But b w w' := by
  obtain ⟨D, h1, h2, h3⟩ := h
  obtain ⟨w', hrun, h4, hg⟩ := h1.update (Go.Maps.string_keyed hk) ht (show n < maxLen by unfold maxLen; omega) (Go.WideMaps.keyOf_string_mk hk (show s.size ≤ maxLen by unfold maxLen; omega)) (plainElem_bool he true)
  refine ⟨w', hrun, ⟨_, h4, h2.put _ _, fun x => ?_⟩, (Kept.refl _ _).grown hg (fun k hk => by cases hk; exact Or.inr (by simp))⟩
  by_cases hx : x = s
  · subst hx
    rw [Go.Maps.atKey_put_same h2 (show WideAt.IsKeyLit (.string x.data.toList) by simp [WideAt.IsKeyLit]), memB_true (by simp)]
  · rw [Go.Maps.atKey_put_other (fun e => hx (Go.WideShapes.bytes_inj (by injection e))), h3 x]
    congr 2
    unfold memB
    rw [List.any_append]
    have hd : decide (s = x) = false := by simpa using fun e => hx e.symm
    simp [hd]
end
end Go.Proofs.YtiecaedgphdfdaaGreatDoor
