/- kit.Lines of a text that ends with a line's end; lines.answer. -/
import Derived.Test.YtjbaijgdkkccbaaGreatDoorT1
import Derived.Test.YtjbaijgdkkccbaaGreatDoorSo
import Derived.Test.YtjbaijgdkkccbaaGreatDoorFs
import Derived.Test.YtjbaijgdkkccbaaGreatDoorZn
import Derived.Test.YtjbaijgdkkccbaaGreatDoorAc
namespace Go.Proofs.YtjbaijgdkkccbaaGreatDoor
open Go.RowKit

theorem Lns.other {lb : Nat} {w w' : World} (h : LnK lb w w') {k : Nat} {cs : Array Value} {T : TypeId} (hk : w.heap[k]? = some (.cells cs T (0, 0))) (hb : k ≠ lb) (hT : T ≠ 5) : w'.heap[k]? = some (.cells cs T (0, 0)) :=
  h.oth k _ hk (fun e => hb (Option.some.inj e)) (fun c fz e => by injection e with _ e _; exact hT e)
/-- A row of strings that was written out. -/
def QStrs (zs : List ByteArray) (v : Value) (w : World) : Prop := ∃ b, v = .slice (some ⟨b, 0, none⟩) zs.length zs.length ∧ w.heap[b]? = some (.cells (zs.map Value.string).toArray 9 (0, 0))
theorem QStrs.stays (zs : List ByteArray) : Stays All (QStrs zs) := fun _ _ _ k ⟨b, h1, h2⟩ => ⟨b, h1, k.heap h2 trivial⟩
end Go.Proofs.YtjbaijgdkkccbaaGreatDoor

/- lines.answers; answersText gives what AnswerLines gives. -/
namespace Go.Proofs.YtjbaijgdkkccbaaGreatDoor
open Go.RowKit

/-- The kind of the question that an answer is to. -/
def kindOf (sheet : List Qst) (y : Ans4) : Int := match sheet.find? (isQ y.question) with | none => 0 | some q => q.kind
theorem kept_belowL {B : Nat} {w w' : World} (h : Below B w w') : Kept (fun k => k < B) w w' := ⟨h.os, h.tape, h.output, h.size, fun k _ hk => h.block k hk⟩
/-- The place of an element of a slice of questions, or of one of its cells. -/
def QPl (a0 : Option Addr) (l0 i j : Nat) (v : Value) (_ : World) : Prop := ∃ b off, a0 = some ⟨b, off, none⟩ ∧ i < l0 ∧ v = .pointer (some ⟨b, off + i * 6 + j, none⟩)
theorem QPl.stays (a0 : Option Addr) (l0 i j : Nat) : Stays All (QPl a0 l0 i j) := fun _ _ _ _ h => h
end Go.Proofs.YtjbaijgdkkccbaaGreatDoor

/- answersText gives what AnswerLines gives. -/
namespace Go.Proofs.YtjbaijgdkkccbaaGreatDoor
open Go.RowKit

theorem GlobP.low {w wx : World} {B : Nat} (h : GlobP w) (k : Kept (fun i => i < B) w wx) (hB : w.heap.size ≤ B) : GlobP wx := by
  obtain ⟨m, hm⟩ := h.g.most
  have h1 := lt_of_cell (h.g.tabs.1 0 (by decide))
  have h2 := lt_of_cell (h.g.tabs.2 0 (by decide)).1
  have h3 := lt_of_cell hm
  have h4 := h.p.lt
  dsimp only at h1 h2 h3
  exact ⟨h.g.kept k (by omega) (by omega) (by omega), h.p.kept k (by omega)⟩
end Go.Proofs.YtjbaijgdkkccbaaGreatDoor
