/- What the operations of a region with literals leave: rows, pointers, numbers. -/
import Derived.Test.YtdgpminhkiilfaaGreatDoorZh
import Derived.Test.YtdgpminhkiilfaaGreatDoorZb
import Derived.Test.YtdgpminhkiilfaaGreatDoorZc
import Derived.Test.YtdgpminhkiilfaaGreatDoorZd
namespace Go.Proofs.YtdgpminhkiilfaaGreatDoor
open Go.RowKit

/-- A row of the call's own lies in no block of another type. -/
theorem Acc.notType {α : Type} {R : Rel α} {sz : Nat} {T : TypeId} {F : Nat → Prop} {B : Nat} {w : World} {v : Value} {xs : List α} (h : Acc R sz T F B w v xs) {b : Nat} {c : Array Value} {t : TypeId} {f : Nat × Nat} (hb : w.heap[b]? = some (.cells c t f)) (hts : T ≠ t) : ∀ k, v.ownBlock = some k → k ≠ b := by
  intro k hk e
  obtain ⟨cells, ho, _⟩ := h
  rcases ho.2 with ⟨hv, _⟩ | ⟨g, cap, cur, hv, _, hgg, _⟩
  · rw [hv] at hk; cases hk
  · rw [hv] at hk
    obtain rfl := Option.some.inj hk
    have e : g = b := e
    rw [e, hb] at hgg
    injection hgg with hgg
    injection hgg with _ hgg _
    exact hts hgg.symm
/-- A row of numbers, of strings. -/
def PRow (σ : St) (zs : List Int) (v : Value) (w : World) : Prop := ∃ b, v = .slice (some ⟨b, 0, none⟩) zs.length zs.length ∧ b ≠ σ.b ∧ w.heap[b]? = some (.cells (zs.map (Value.int .i64)).toArray 3 (0, 0))
def PStrs (σ : St) (ss : List ByteArray) (v : Value) (w : World) : Prop := ∃ b, v = .slice (some ⟨b, 0, none⟩) ss.length ss.length ∧ b ≠ σ.b ∧ w.heap[b]? = some (.cells (ss.map Value.string).toArray 9 (0, 0))
def PIs (u : Value) (v : Value) (_ : World) : Prop := v = u
def PNum (P : Int → Prop) (v : Value) (_ : World) : Prop := ∃ r : Int, v = .int .i64 r ∧ P r
def PBool (v : Value) (_ : World) : Prop := ∃ r : Bool, v = .bool r
def PStr (P : ByteArray → Prop) (v : Value) (_ : World) : Prop := ∃ r : ByteArray, v = .string r ∧ P r
theorem PRow.stays (σ : St) (zs : List Int) : Stays (fun w w' => But σ.b w w') (PRow σ zs) := fun _ _ _ k ⟨b, h1, h2, h3⟩ => ⟨b, h1, h2, k.heap h3 h2⟩
theorem PStrs.stays (σ : St) (zs : List ByteArray) : Stays (fun w w' => But σ.b w w') (PStrs σ zs) := fun _ _ _ k ⟨b, h1, h2, h3⟩ => ⟨b, h1, h2, k.heap h3 h2⟩
theorem PIs.stays (σ : St) (u : Value) : Stays (fun w w' => But σ.b w w') (PIs u) := fun _ _ _ _ h => h
theorem PNum.stays (σ : St) (P : Int → Prop) : Stays (fun w w' => But σ.b w w') (PNum P) := fun _ _ _ _ h => h
theorem PBool.stays (σ : St) : Stays (fun w w' => But σ.b w w') PBool := fun _ _ _ _ h => h
theorem PStr.stays (σ : St) (P : ByteArray → Prop) : Stays (fun w w' => But σ.b w w') (PStr P) := fun _ _ _ _ h => h
/-- A new block. -/
def PNew (σ : St) (B : Nat) (t : TypeId) (zs : Array Value) (v : Value) (w : World) : Prop := ∃ b, v = .pointer (some ⟨b, 0, none⟩) ∧ B ≤ b ∧ b ≠ σ.b ∧ w.heap[b]? = some (.cells zs t (0, 0))
theorem PNew.stays (σ : St) (B : Nat) (t : TypeId) (zs : Array Value) : Stays (fun w w' => But σ.b w w') (PNew σ B t zs) := fun _ _ _ k ⟨b, h1, h2, h3, h4⟩ => ⟨b, h1, h2, h3, k.heap h4 h3⟩
/-- What holds throughout such a region: the stream is where it was, and no more than s numbers an operation further. -/
def GStr (s : Nat) (σ : St) (n : Nat) (w0 : World) (k : Nat) (w : World) : Prop := ∃ m, n ≤ m ∧ m ≤ n + s * k ∧ Str σ w m ∧ But σ.b w0 w
theorem GStr.alloc {s : Nat} {σ : St} {n k m : Nat} {w0 w : World} (o : Obj) (h1 : n ≤ m) (h2 : m ≤ n + s * k) (h3 : Str σ w m) (h4 : But σ.b w0 w) : GStr s σ n w0 (k + 1) (w.alloc o) := ⟨m, h1, by rw [Nat.mul_add]; omega, h3.keep (Kept.alloc _ _ _), h4.then_alloc _⟩
theorem GStr.same {s : Nat} {σ : St} {n k m : Nat} {w0 w : World} (h1 : n ≤ m) (h2 : m ≤ n + s * k) (h3 : Str σ w m) (h4 : But σ.b w0 w) : GStr s σ n w0 (k + 1) w := ⟨m, h1, by rw [Nat.mul_add]; omega, h3, h4⟩
theorem GStr.call {s : Nat} {σ : St} {n k m m2 : Nat} {w0 w w2 : World} (h1 : n ≤ m) (h2 : m ≤ n + s * k) (h4 : But σ.b w0 w) (h5 : m ≤ m2) (h6 : m2 ≤ m + s) (h7 : Str σ w2 m2) (h8 : But σ.b w w2) : GStr s σ n w0 (k + 1) w2 := ⟨m2, by omega, by rw [Nat.mul_add]; omega, h7, h4.trans h8⟩
end Go.Proofs.YtdgpminhkiilfaaGreatDoor
