/- A range over an iterator that keeps in a box what is still to come: the statement's law. -/
import Derived.RangeFuncNested
import Derived.RangeFuncBound
import Derived.RangeFuncCalls
import Derived.RangeFuncLeaves
import Derived.Shelf.Abstract
import Derived.Shelf.RegionOpen
import Derived.WalkKit
import Derived.OwnWalkIn
import Derived.TacticsInMore
import Derived.LoopNIn
import Derived.LoopIn
import Derived.Test.YtjbaijgdkkccbaaGreatDoorZc
import Derived.Test.YtjbaijgdkkccbaaGreatDoorProg
import Derived.Test.YtjbaijgdkkccbaaGreatDoorSu
import Derived.Test.YtjbaijgdkkccbaaGreatDoorAa
import Derived.Test.YtjbaijgdkkccbaaGreatDoorFs
import Derived.Test.YtjbaijgdkkccbaaGreatDoorSv
import Derived.Test.YtjbaijgdkkccbaaGreatDoorZn
namespace Go.Proofs.YtjbaijgdkkccbaaGreatDoor
open Go.RowKit Go.Shelf

/-- The marks that loops over iterators have left among a call's deferred calls. -/
def Marks (B : Nat) (ds : List Deferred) (W : World) : Prop := (ds.map (·.target)).Nodup ∧ ∀ d ∈ ds, ∃ D, d.target = .collected D ∧ B ≤ D ∧ W.heap[D]? = some (.deferred (some []))
theorem Marks.nil (B : Nat) (W : World) : Marks B [] W := ⟨by simp, by simp⟩
theorem Marks.keep {B : Nat} {ds : List Deferred} {W W' : World} (h : Marks B ds W) (hk : ∀ (k : Nat), B ≤ k → W.heap[k]? = some (.deferred (some [])) → W'.heap[k]? = some (.deferred (some []))) : Marks B ds W' :=
  ⟨h.1, fun d hd => by obtain ⟨D, h1, h2, h3⟩ := h.2 d hd; exact ⟨D, h1, h2, hk D h2 h3⟩⟩
/-- A mark more. -/
theorem Marks.cons {B : Nat} {ds : List Deferred} {W W' : World} {D : Nat} (h : Marks B ds W) (hn : W.heap.size ≤ D) (hk : ∀ (k : Nat), B ≤ k → W.heap[k]? = some (.deferred (some [])) → W'.heap[k]? = some (.deferred (some []))) (hB : B ≤ D) (hD : W'.heap[D]? = some (.deferred (some []))) : Marks B ({ target := .collected D, args := #[] } :: ds) W' := by
  refine ⟨?_, ?_⟩
  · rw [List.map_cons, List.nodup_cons]
    refine ⟨fun hm => ?_, h.1⟩
    obtain ⟨d, hd, he⟩ := List.mem_map.1 hm
    obtain ⟨D', h1, -, h3⟩ := h.2 d hd
    rw [h1] at he
    cases he
    have := (Array.getElem?_eq_some_iff.1 h3).1
    omega
  · intro d hd
    rcases List.mem_cons.1 hd with rfl | hd
    · exact ⟨D, rfl, hB, hD⟩
    · exact (h.keep hk).2 d hd
end Go.Proofs.YtjbaijgdkkccbaaGreatDoor

/- strings.Lines: the iterator over the lines of a string, which keeps in a box what is still to come. -/
namespace Go.Proofs.YtjbaijgdkkccbaaGreatDoor
open Go.RowKit Go.Shelf
attribute [local go_sem] Oper.semAt_some

end Go.Proofs.YtjbaijgdkkccbaaGreatDoor

/- AnswerLines: what it answers of answers. -/
namespace Go.Proofs.YtjbaijgdkkccbaaGreatDoor
open Go.RowKit Go.Shelf
attribute [local go_sem] Oper.semAt_some

def catR (a b : ByteArray) : ByteArray := a ++ b
/-- A string is put behind another one. -/
theorem cat_runR (P : Program) (a b : ByteArray) (h : a.size + b.size ≤ 9223372036854775807) : ∃ t : ByteArray, t = catR a b ∧ t.size = a.size + b.size ∧ ∀ wx : World, (Op.stringOp .add a b).run P wx = .ok (.string t) wx :=
  ⟨_, rfl, ByteArray.size_append, fun wx => run_string_add_sum wx a b h⟩
def itoaB (z : Int) : ByteArray := ⟨(Lib.itoa z).toArray⟩
end Go.Proofs.YtjbaijgdkkccbaaGreatDoor
