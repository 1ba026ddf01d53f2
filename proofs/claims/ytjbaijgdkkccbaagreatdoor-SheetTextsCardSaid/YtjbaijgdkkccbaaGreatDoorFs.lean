/- What strconv's table holds; Itoa. -/
import Derived.Test.YtjbaijgdkkccbaaGreatDoorZc
import Derived.Test.YtjbaijgdkkccbaaGreatDoorSm
import Derived.Lib.ItoaLen
import Derived.Test.YtjbaijgdkkccbaaGreatDoorGa
namespace Go.Proofs.YtjbaijgdkkccbaaGreatDoor
open Go.RowKit

def Pow (w : World) : Prop := Lib.TabIs Tryz.prog w "internal/strconv.uint64pow10" .u64 Lib.pow10Tab
theorem pow_named : Tryz.prog.globalNamed "internal/strconv.uint64pow10" = some 1 := by kernel_rfl
theorem Pow.kept {F : Nat → Prop} {w w' : World} (h : Pow w) (k : Kept F w w') (hF : F 1) : Pow w' := by
  unfold Pow Lib.TabIs World.var? at *
  rw [pow_named] at *
  simp only [Option.bind_some] at *
  cases hb : w.heap[1]? with
  | none => rw [hb] at h; cases h
  | some o => rw [k.heap hb hF]; rw [hb] at h; exact h
theorem Pow.keep {w w' : World} (h : Pow w) (k : All w w') : Pow w' := h.kept k trivial
theorem Pow.lt {w : World} (h : Pow w) : 1 < w.heap.size := by
  unfold Pow Lib.TabIs World.var? at h
  rw [pow_named] at h
  simp only [Option.bind_some] at h
  rcases Nat.lt_or_ge 1 w.heap.size with h' | h'
  · exact h'
  · rw [Array.getElem?_eq_none h'] at h; cases h
theorem kept_grow (w : World) (k : Nat) (os : Array Obj) : All w (Go.Sort.grow (w.drewN k) os) :=
  ⟨rfl, rfl, rfl, by simp [Go.Sort.grow, World.drewN], fun i hi _ => by
    simp only [Go.Sort.grow, World.drewN]
    rw [Array.getElem?_append_left hi]⟩
theorem itoa_any (n : Int) (h0 : -9223372036854775808 ≤ n) (h1 : n ≤ 9223372036854775807) (w : World) (hp : Pow w) :
    Calls Tryz.prog 88 #[.int .i64 n] w fun e w' => e = .returned (.string ⟨(Lib.itoa n).toArray⟩) ∧ All w w' := by
  refine (Tryz.strconv_Itoa n h0 h1 w hp).mono ?_
  rintro e w' ⟨rfl, k, os, rfl⟩
  exact ⟨rfl, kept_grow _ _ _⟩
theorem itoa_size (n : Int) (h0 : -9223372036854775808 ≤ n) (h1 : n ≤ 9223372036854775807) : (⟨(Lib.itoa n).toArray⟩ : ByteArray).size ≤ 21 := by
  show (Lib.itoa n).toArray.size ≤ 21
  have := Lib.itoa_length_le n h0 h1
  simpa using this
end Go.Proofs.YtjbaijgdkkccbaaGreatDoor

/- What the library's tables hold, strconv's too. -/
namespace Go.Proofs.YtjbaijgdkkccbaaGreatDoor
open Go.RowKit

structure GlobP (w : World) : Prop where
  g : Glob w
  p : Pow w
theorem GlobP.keep {w w' : World} (h : GlobP w) (k : All w w') : GlobP w' := ⟨h.g.keep k, h.p.keep k⟩
end Go.Proofs.YtjbaijgdkkccbaaGreatDoor
