/- IsPlain and Plain answer plainB; isLine and named answer lineB. -/
import Derived.Test.YtjbaijgdkkccbaaGreatDoorKb
import Derived.Test.YtjbaijgdkkccbaaGreatDoorSi
namespace Go.Proofs.YtjbaijgdkkccbaaGreatDoor
open Go.RowKit

/-- What the library's own variables hold. -/
structure Glob (w : World) : Prop where
  tabs : Lib.Utf8Tabs 4 5 w
  most : ∃ m : Int, w.cell? ⟨0, 0, none⟩ = some (.int .i64 m)
theorem Glob.kept {F : Nat → Prop} {w w' : World} (h : Glob w) (k : Kept F w w') (h0 : F 4) (h1 : F 5) (h2 : F 0) : Glob w' := by
  refine ⟨⟨fun c hc => k.cell (h.tabs.1 c hc) h0, fun i hi => ⟨k.cell (h.tabs.2 i hi).1 h1, k.cell (h.tabs.2 i hi).2 h1⟩⟩, ?_⟩
  obtain ⟨m, hm⟩ := h.most
  exact ⟨m, k.cell hm h2⟩
theorem Glob.keep {w w' : World} (h : Glob w) (k : All w w') : Glob w' := h.kept k trivial trivial trivial
theorem Glob.but {w w' : World} {b : Nat} (h : Glob w) (k : But b w w') (hb : 7 < b) : Glob w' := h.kept k (by omega) (by omega) (by omega)

def blank1 : ByteArray := ⟨#[32]⟩
def blank2 : ByteArray := ⟨#[32, 32]⟩
/-- No byte up to place k is barred. -/
def bytesOk (s : ByteArray) (k : Nat) : Prop := ∀ (i : Nat) (h : i < s.size), i < k → ¬ ((s[i].toNat : Int) < 32 ∨ (s[i].toNat : Int) = 127)
def trimmed (s : ByteArray) : Prop := Lib.trimS s.data.toList blank1.data.toList = s.data.toList
open Classical in
noncomputable def plainB (s : ByteArray) : Bool := decide (bytesOk s s.size) && Lib.validD s.data.toList && decide (trimmed s) && !Lib.contains s.data.toList blank2.data.toList
end Go.Proofs.YtjbaijgdkkccbaaGreatDoor
