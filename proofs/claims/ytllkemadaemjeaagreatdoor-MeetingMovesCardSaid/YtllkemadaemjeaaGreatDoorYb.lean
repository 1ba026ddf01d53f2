/- Maps from strings to rows of the call's own, of whatever flat elements. No program in sight. -/
import Derived.Test.YtllkemadaemjeaaGreatDoorYa
import Derived.Test.YtllkemadaemjeaaGreatDoorMb
namespace Go.Proofs.YtllkemadaemjeaaGreatDoor
open Go.RowKit

/-- The map in block mb holds, at each string that has elements, a row of the call's own (from block B on) with the elements f. -/
structure RowM {α : Type} (P : Program) (tk : TypeId) (R : Rel α) (sz : Nat) (T : TypeId) (w : World) (B mb n : Nat) (vals : ByteArray → Value) (f : ByteArray → List α) : Prop where
  map : MapS P tk w mb n (fun p => if (f p).isEmpty = true then none else some (vals p))
  acc : ∀ p, Acc R sz T (fun _ => False) B w (vals p) (f p)
  nil : ∀ p, f p = [] → vals p = .slice none 0 0
  sep : ∀ p q k, p ≠ q → (vals p).ownBlock = some k → (vals q).ownBlock ≠ some k
section
variable {α : Type} {P : Program} {tk : TypeId} {R : Rel α} {enc : α → List Value} {S : α → Prop} {sz : Nat} {T : TypeId} {w w' w2 : World} {B mb n : Nat} {vals : ByteArray → Value} {f : ByteArray → List α}
theorem RowM.start (P : Program) (tk : TypeId) (R : Rel α) (sz : Nat) (T : TypeId) (w : World) : RowM P tk R sz T (w.alloc (.map #[] 0)) (w.heap.size + 1) w.heap.size 0 (fun _ => .slice none 0 0) (fun _ => []) :=
  ⟨(MapS.made P tk w).congr (fun _ => by simp), fun _ => Acc.nil _ _ _ _ _ _, fun _ _ => rfl, fun p q k _ h => by simp [Value.ownBlock] at h⟩
theorem RowM.keep (hR : Flat R enc S sz) (h : RowM P tk R sz T w B mb n vals f) (k : All w w') : RowM P tk R sz T w' B mb n vals f :=
  ⟨h.map.keep k trivial, fun p => (h.acc p).keepAll hR.ok k, h.nil, h.sep⟩
/-- Only blocks below B are written to, none of them the map. -/
theorem RowM.keepF (hR : Flat R enc S sz) {G : Nat → Prop} (h : RowM P tk R sz T w B mb n vals f) (k : Kept G w w') (hm : G mb) (hG : ∀ i, B ≤ i → i < w.heap.size → G i) : RowM P tk R sz T w' B mb n vals f :=
  ⟨h.map.keep k hm, fun p => (h.acc p).flatKeep hR k (fun i hi => hG i ((h.acc p).lt i hi).1 ((h.acc p).lt i hi).2), h.nil, h.sep⟩
theorem RowM.look (h : RowM P tk R sz T w B mb n vals f) {t te : TypeId} (hk : P.underlying tk = some .string) (ht : P.underlying t = some (.map tk te)) (hz : (zeroValue te).run P w = .ok (.slice none 0 0) w) (p : ByteArray) (hp : p.size ≤ 1000000) :
    (Instr.lookup t (.map (some mb)) (.string p) false).run P w = .ok (vals p) w := by
  have h1 := h.map.look hk ht hz p hp
  rw [h1]
  by_cases hf : f p = []
  · simp [hf, h.nil p hf]
  · simp [hf]
theorem RowM.look_ok (h : RowM P tk R sz T w B mb n vals f) {t te : TypeId} (hk : P.underlying tk = some .string) (ht : P.underlying t = some (.map tk te)) (hz : (zeroValue te).run P w = .ok (.slice none 0 0) w) (p : ByteArray) (hp : p.size ≤ 1000000) :
    (Instr.lookup t (.map (some mb)) (.string p) true).run P w = .ok (.tuple #[vals p, .bool !(f p).isEmpty]) w := by
  have h1 := h.map.look_ok hk ht hz p hp
  rw [h1]
  by_cases hf : f p = []
  · simp [hf, h.nil p hf]
  · simp [hf]
/-- The map is written to. -/
theorem RowM.putAt {W0 : World} {t te : TypeId} (h : RowM P tk R sz T w B mb n vals f) (hkt : P.underlying tk = some .string) (ht : P.underlying t = some (.map tk te)) (hmB : mb < B) {p : ByteArray} (hg : W0.grownBy w' (vals p).ownBlock) (hk : All w W0) (hn : n ≤ 1000000) (hp : p.size ≤ 1000000) (v' : Value) :
    ∃ w2, (Instr.mapUpdate t (.map (some mb)) (.string p) v').run P w' = .ok () w2 ∧ MapS P tk w2 mb (n + 1) (putS (fun p => if (f p).isEmpty = true then none else some (vals p)) p v') ∧ But mb w' w2 := by
  have h0 := h.map.keep hk trivial
  have hkp : Kept (fun k => (vals p).ownBlock ≠ some k) W0 w' := ⟨hg.os, hg.tape, hg.output, hg.size, fun k hk hf => hg.block k hk (fun e => hf e.symm)⟩
  have h1 := h0.keep hkp (fun e => by have := ((h.acc p).lt _ e).1; omega)
  exact h1.put hkt ht hn p hp v'
/-- One element more. -/
theorem RowM.push (hR : Flat R enc S sz) (h : RowM P tk R sz T w B mb n vals f) (hmB : mb < B) {p : ByteArray} {x : α} {v' : Value} (hacc : Acc R sz T (fun _ => False) B w' v' (f p ++ [x])) (hg : w.grownBy w' (vals p).ownBlock) (hat : v'.ownBlock = (vals p).ownBlock ∨ v'.ownBlock = some w.heap.size)
    (hm : MapS P tk w2 mb (n + 1) (putS (fun p => if (f p).isEmpty = true then none else some (vals p)) p v')) (hb : But mb w' w2) :
    RowM P tk R sz T w2 B mb (n + 1) (fun q => if q = p then v' else vals q) (fun q => if q = p then f p ++ [x] else f q) := by
  have hkp : Kept (fun k => (vals p).ownBlock ≠ some k) w w' := ⟨hg.os, hg.tape, hg.output, hg.size, fun k hk hf => hg.block k hk (fun e => hf e.symm)⟩
  refine ⟨hm.congr (fun q => ?_), fun q => ?_, fun q hq => ?_, fun a b k hab ha => ?_⟩
  · by_cases hq : q = p
    · subst hq; simp [putS]
    · simp [putS, hq]
  · by_cases hq : q = p
    · subst hq
      simp only [if_true]
      exact hacc.flatKeep hR hb (fun k hk => by have := (hacc.lt k hk).1; omega)
    · simp only [hq, if_false]
      have h1 := (h.acc q).flatKeep hR hkp (fun k hk e => h.sep q p k hq hk e)
      exact h1.flatKeep hR hb (fun k hk => by have := (h1.lt k hk).1; omega)
  · by_cases hqp : q = p
    · simp [hqp] at hq
    · simp only [hqp, if_false] at hq ⊢
      exact h.nil q hq
  · by_cases hap : a = p
    · subst hap
      have hbp : ¬ b = a := fun e => hab e.symm
      simp only [if_true] at ha
      simp only [hbp, if_false]
      rcases hat with e | e
      · rw [e] at ha; exact h.sep a b k hab ha
      · rw [e] at ha
        cases ha
        intro hk
        have := ((h.acc b).lt _ hk).2
        omega
    · simp only [hap, if_false] at ha
      by_cases hbp : b = p
      · subst hbp
        simp only [if_true]
        intro hk
        rcases hat with e | e
        · rw [e] at hk; exact h.sep a b k hab ha hk
        · rw [e] at hk
          cases hk
          have := ((h.acc a).lt _ ha).2
          omega
      · simp only [hbp, if_false]
        exact h.sep a b k hab ha
end
theorem grown_cellM {W0 w7 : World} {row : Option Nat} {p : Addr} {v : Value} (hg : W0.grownBy w7 row) (hc : W0.cell? p = some v) (hne : row ≠ some p.block) : w7.cell? p = some v := by
  have hk : Kept (fun k => row ≠ some k) W0 w7 := ⟨hg.os, hg.tape, hg.output, hg.size, fun k hk hf => hg.block k hk (fun e => hf e.symm)⟩
  exact hk.cell hc hne
end Go.Proofs.YtllkemadaemjeaaGreatDoor
