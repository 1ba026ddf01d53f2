/- A strings.Builder of the call's own, by the bytes that it holds: WriteString, Len, String. -/
import Derived.Test.YtiecaedgphdfdaaGreatDoorNa
import Derived.Test.YtiecaedgphdfdaaGreatDoorSm
namespace Go.Proofs.YtiecaedgphdfdaaGreatDoor
open Go.RowKit

/-- Block B is a builder that holds the bytes l. -/
def Bld (w : World) (B : Nat) (l : List UInt8) : Prop := Lib.IsBuilderF 112 5 B B (Lib.byteCells l) w
theorem Bld.fresh (w : World) : Bld (w.alloc (.cells #[.pointer none, .slice none 0 0] 112)) w.heap.size [] := Lib.IsBuilderF.of (Lib.fresh_isBuilder _ _ w)
theorem bldAt_keep {T e : TypeId} {B b : Nat} {p : Value} {bs : List Value} {w w' : World} (h : Lib.BuilderAtF T e B b p bs w) (k : All w w') : Lib.BuilderAtF T e B b p bs w' := by
  obtain ⟨hB, v, hb, ho, hne⟩ := h
  refine ⟨hB, v, k.heap hb trivial, ⟨ho.1, ?_⟩, hne⟩
  rcases ho.2 with h0 | ⟨g, cap, cur, fz, hv, h1, h2, rest⟩
  · exact .inl h0
  · exact .inr ⟨g, cap, cur, fz, hv, h1, k.heap h2 trivial, rest⟩
theorem Bld.keep {w w' : World} {B : Nat} {l : List UInt8} (h : Bld w B l) (k : All w w') : Bld w' B l := by
  rcases h with h | h
  · exact .inl (bldAt_keep h k)
  · exact .inr (bldAt_keep h k)
theorem Bld.lt {w : World} {B : Nat} {l : List UInt8} (h : Bld w B l) : B < w.heap.size := by
  rcases h with h | h
  · exact h.lt
  · exact h.lt
theorem kept_below {B : Nat} {w w' : World} (h : Below B w w') : Kept (fun k => k < B) w w' := ⟨h.os, h.tape, h.output, h.size, fun k _ hk => h.block k hk⟩
def WritePost (B : Nat) (l : List UInt8) (s : ByteArray) (w : World) (e : Ending) (w' : World) : Prop :=
  e = .returned (.tuple #[.int .i64 s.size, .nilIface]) ∧ Bld w' B (l ++ s.data.toList) ∧ Kept (fun k => k < B) w w' ∧ Lib.OthersKept 5 (some B) w w'
theorem write_any (B : Nat) (l : List UInt8) (s : ByteArray) (w : World) (h : Bld w B l) (hlen : l.length + s.size ≤ 1000000000) :
    Calls Tryz.prog 57 #[.pointer (some ⟨B, 0, none⟩), .string s] w (WritePost B l s w) := by
  have hl := h.lt
  refine (writeString_k B B _ s w h (by rw [Lib.byteCells_length]; omega) (by omega)).mono ?_
  rintro e w' ⟨rfl, h1, h2, h3⟩
  refine ⟨rfl, .inr ?_, kept_below h2, h3⟩
  rw [Lib.byteCells_append, ← Lib.strCells_eq]
  exact h1
theorem len_any (B : Nat) (l : List UInt8) (w : World) (h : Bld w B l) :
    Calls Tryz.prog 60 #[.pointer (some ⟨B, 0, none⟩)] w fun e w' => e = .returned (.int .i64 l.length) ∧ w' = w := by
  refine (Tryz.Builder_Len_f B B _ w h).mono ?_
  rintro e w' ⟨rfl, rfl⟩
  exact ⟨by rw [Lib.byteCells_length], rfl⟩
theorem string_any (B : Nat) (l : List UInt8) (w : World) (h : Bld w B l) :
    Calls Tryz.prog 61 #[.pointer (some ⟨B, 0, none⟩)] w fun e w' => e = .returned (.string ⟨l.toArray⟩) ∧ Kept (fun k => k < B) w w' := by
  have hl := h.lt
  refine (Tryz.Builder_String_any_k B B l w h (by omega)).mono ?_
  rintro e w' ⟨rfl, h1, h2, h3⟩
  exact ⟨rfl, kept_below h2⟩
end Go.Proofs.YtiecaedgphdfdaaGreatDoor
