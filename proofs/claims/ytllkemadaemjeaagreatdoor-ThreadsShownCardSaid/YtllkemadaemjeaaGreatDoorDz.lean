/- Maps of the call's own whose keys are ints, with whatever values. No program in sight. -/
import Derived.Test.YtllkemadaemjeaaGreatDoorMb
import Derived.Maps.Keyed
import Derived.Test.YtllkemadaemjeaaGreatDoorYa
import Derived.Test.YtllkemadaemjeaaGreatDoorIp
import Derived.Test.YtllkemadaemjeaaGreatDoorBc
import Derived.Test.YtllkemadaemjeaaGreatDoorBf
import Derived.Test.YtllkemadaemjeaaGreatDoorDr
namespace Go.Proofs.YtllkemadaemjeaaGreatDoor
open Go.RowKit
open Go.Maps (Keyed IsMap)

theorem wf_int {z : Int} (h : -1000000000000000 ≤ z ∧ z ≤ 1000000000000000) : (Lit.int .i64 z).wf = true := by
  simp [Lit.wf, IntKind.min, IntKind.max, IntKind.signed, IntKind.bits]
  omega
/-- Block b is a map of at most n entries; m says what lies at a string. -/
def MapI (P : Program) (k : TypeId) (w : World) (b n : Nat) (m : Int → Option Value) : Prop :=
  ∃ D : DataW Value, w.ownsMap P k heldR b n D ∧ ∀ s : Int, Maps.has D (.int .i64 s) = (m s).isSome ∧ ∀ z, D.atKey (.int .i64 s) (.held z) = .held ((m s).getD z)
/-- m with v at s. -/
def putI (m : Int → Option Value) (s : Int) (v : Value) : Int → Option Value := fun x => if x = s then some v else m x
theorem putI_same (m : Int → Option Value) (s : Int) (v : Value) : putI m s v s = some v := by simp [putI]
theorem putI_other {m : Int → Option Value} {s x : Int} {v : Value} (h : x ≠ s) : putI m s v x = m x := by simp [putI, h]

section
variable {P : Program} {k e t : TypeId} {w w' : World} {b n : Nat} {m : Int → Option Value}

theorem MapI.made (P : Program) (k : TypeId) (w : World) : MapI P k (w.alloc (.map #[] 0)) w.heap.size 0 (fun _ => none) :=
  ⟨.map [], World.ownsMap_made _ _ _ _, fun _ => ⟨rfl, fun _ => rfl⟩⟩
theorem MapI.lt (h : MapI P k w b n m) : b < w.heap.size := by
  obtain ⟨D, h1, _⟩ := h
  exact h1.lt
theorem MapI.blk (h : MapI P k w b n m) : ∃ es clock, w.heap[b]? = some (.map es clock) := by
  obtain ⟨D, ⟨es, clock, hb, _⟩, _⟩ := h
  exact ⟨es, clock, hb⟩
theorem MapI.keep {F : Nat → Prop} (h : MapI P k w b n m) (hk : Kept F w w') (hF : F b) : MapI P k w' b n m := by
  have hl := h.lt
  obtain ⟨D, ⟨es, clock, hb, F', hs, hD⟩, h3⟩ := h
  exact ⟨D, ⟨es, clock, (hk.block b hl hF).trans hb, F', hs, hD⟩, h3⟩
theorem MapI.up {n' : Nat} (h : MapI P k w b n m) (hn : n ≤ n') : MapI P k w b n' m := by
  obtain ⟨D, h1, h3⟩ := h
  exact ⟨D, h1.mono hn, h3⟩
theorem MapI.congr {m' : Int → Option Value} (h : MapI P k w b n m) (hm : ∀ s, m s = m' s) : MapI P k w b n m' := by
  have : m = m' := funext hm
  rw [← this]; exact h
theorem MapI.look (h : MapI P k w b n m) (hk : P.underlying k = some (.int .i64)) (ht : P.underlying t = some (.map k e)) {z : Value} (hz : (zeroValue e).run P w = .ok z w) (s : Int) (hs : -1000000000000000 ≤ s ∧ s ≤ 1000000000000000) :
    (Instr.lookup t (.map (some b)) (.int .i64 s) false).run P w = .ok ((m s).getD z) w := by
  obtain ⟨D, h1, h3⟩ := h
  obtain ⟨v, ps, hrun, hv⟩ := h1.lookup (Go.Maps.int_keyed hk) ht hz (heldR_mk z) (Go.Maps.keyOf_int_mk hk (wf_int hs))
  rw [(h3 s).2 z] at hv
  simp only [heldR, Option.some.injEq, Prod.mk.injEq, DataW.held.injEq] at hv
  rw [hrun, hv.1]
theorem MapI.look_ok (h : MapI P k w b n m) (hk : P.underlying k = some (.int .i64)) (ht : P.underlying t = some (.map k e)) {z : Value} (hz : (zeroValue e).run P w = .ok z w) (s : Int) (hs : -1000000000000000 ≤ s ∧ s ≤ 1000000000000000) :
    (Instr.lookup t (.map (some b)) (.int .i64 s) true).run P w = .ok (.tuple #[(m s).getD z, .bool (m s).isSome]) w := by
  obtain ⟨D, h1, h3⟩ := h
  obtain ⟨v, ps, hrun, hv⟩ := h1.look_ok (Go.Maps.int_keyed hk) ht hz (heldR_mk z) (Go.Maps.keyOf_int_mk hk (wf_int hs))
  rw [(h3 s).2 z] at hv
  simp only [heldR, Option.some.injEq, Prod.mk.injEq, DataW.held.injEq] at hv
  rw [hrun, hv.1, (h3 s).1]
theorem MapI.put (h : MapI P k w b n m) (hk : P.underlying k = some (.int .i64)) (ht : P.underlying t = some (.map k e)) (hn : n ≤ 1000000) (s : Int) (hs : -1000000000000000 ≤ s ∧ s ≤ 1000000000000000) (v : Value) :
    ∃ w', (Instr.mapUpdate t (.map (some b)) (.int .i64 s) v).run P w = .ok () w' ∧ MapI P k w' b (n + 1) (putI m s v) ∧ But b w w' := by
  obtain ⟨D, h1, h3⟩ := h
  have hM := h1.isMap
  obtain ⟨w', hrun, h4, hg⟩ := h1.update (Go.Maps.int_keyed hk) ht (show n < maxLen by unfold maxLen; omega) (Go.Maps.keyOf_int_mk hk (wf_int hs)) (heldR_mk v)
  refine ⟨w', hrun, ⟨_, h4, fun x => ?_⟩, (Kept.refl _ _).grown hg (fun k hk => by cases hk; exact Or.inr (by simp))⟩
  by_cases hx : x = s
  · subst hx
    have hkl : WideAt.IsKeyLit (.int .i64 x) := by simp [WideAt.IsKeyLit]
    refine ⟨?_, fun z => ?_⟩
    · rw [Go.Maps.has_put_same hM hkl, putI_same]; rfl
    · rw [Go.Maps.atKey_put_same hM hkl, putI_same]; rfl
  · have hne : (Lit.int .i64 x) ≠ .int .i64 s := fun e => hx (by injection e)
    refine ⟨?_, fun z => ?_⟩
    · rw [Go.Maps.has_put_other hne, putI_other hx, (h3 x).1]
    · rw [Go.Maps.atKey_put_other hne, putI_other hx, (h3 x).2]
end

end Go.Proofs.YtllkemadaemjeaaGreatDoor

/- Maps from numbers to rows of the call's own, of whatever flat elements. No program in sight. -/
namespace Go.Proofs.YtllkemadaemjeaaGreatDoor
open Go.RowKit

/-- The map in block mb holds, at each string that has elements, a row of the call's own (from block B on) with the elements f. -/
structure RowI {α : Type} (P : Program) (tk : TypeId) (R : Rel α) (sz : Nat) (T : TypeId) (w : World) (B mb n : Nat) (vals : Int → Value) (f : Int → List α) : Prop where
  map : MapI P tk w mb n (fun p => if (f p).isEmpty = true then none else some (vals p))
  acc : ∀ p, Acc R sz T (fun _ => False) B w (vals p) (f p)
  nil : ∀ p, f p = [] → vals p = .slice none 0 0
  sep : ∀ p q k, p ≠ q → (vals p).ownBlock = some k → (vals q).ownBlock ≠ some k
section
variable {α : Type} {P : Program} {tk : TypeId} {R : Rel α} {enc : α → List Value} {S : α → Prop} {sz : Nat} {T : TypeId} {w w' w2 : World} {B mb n : Nat} {vals : Int → Value} {f : Int → List α}
theorem RowI.start (P : Program) (tk : TypeId) (R : Rel α) (sz : Nat) (T : TypeId) (w : World) : RowI P tk R sz T (w.alloc (.map #[] 0)) (w.heap.size + 1) w.heap.size 0 (fun _ => .slice none 0 0) (fun _ => []) :=
  ⟨(MapI.made P tk w).congr (fun _ => by simp), fun _ => Acc.nil _ _ _ _ _ _, fun _ _ => rfl, fun p q k _ h => by simp [Value.ownBlock] at h⟩
theorem RowI.startB (P : Program) (tk : TypeId) (R : Rel α) (sz : Nat) (T : TypeId) (w : World) (B : Nat) : RowI P tk R sz T (w.alloc (.map #[] 0)) B w.heap.size 0 (fun _ => .slice none 0 0) (fun _ => []) :=
  ⟨(MapI.made P tk w).congr (fun _ => by simp), fun _ => Acc.nil _ _ _ _ _ _, fun _ _ => rfl, fun p q k _ h => by simp [Value.ownBlock] at h⟩
theorem RowI.keep (hR : Flat R enc S sz) (h : RowI P tk R sz T w B mb n vals f) (k : All w w') : RowI P tk R sz T w' B mb n vals f :=
  ⟨h.map.keep k trivial, fun p => (h.acc p).keepAll hR.ok k, h.nil, h.sep⟩
/-- Only blocks below B are written to, none of them the map. -/
theorem RowI.keepF (hR : Flat R enc S sz) {G : Nat → Prop} (h : RowI P tk R sz T w B mb n vals f) (k : Kept G w w') (hm : G mb) (hG : ∀ i, B ≤ i → i < w.heap.size → G i) : RowI P tk R sz T w' B mb n vals f :=
  ⟨h.map.keep k hm, fun p => (h.acc p).flatKeep hR k (fun i hi => hG i ((h.acc p).lt i hi).1 ((h.acc p).lt i hi).2), h.nil, h.sep⟩
/-- Only blocks that are none of the rows, and not the map, are written to. -/
theorem RowI.keepG (hR : Flat R enc S sz) {G : Nat → Prop} (h : RowI P tk R sz T w B mb n vals f) (k : Kept G w w') (hm : G mb) (hG : ∀ p i, (vals p).ownBlock = some i → G i) : RowI P tk R sz T w' B mb n vals f :=
  ⟨h.map.keep k hm, fun p => (h.acc p).flatKeep hR k (hG p), h.nil, h.sep⟩
theorem RowI.look (h : RowI P tk R sz T w B mb n vals f) {t te : TypeId} (hk : P.underlying tk = some (.int .i64)) (ht : P.underlying t = some (.map tk te)) (hz : (zeroValue te).run P w = .ok (.slice none 0 0) w) (p : Int) (hp : -1000000000000000 ≤ p ∧ p ≤ 1000000000000000) :
    (Instr.lookup t (.map (some mb)) (.int .i64 p) false).run P w = .ok (vals p) w := by
  have h1 := h.map.look hk ht hz p hp
  rw [h1]
  by_cases hf : f p = []
  · simp [hf, h.nil p hf]
  · simp [hf]
theorem RowI.look_ok (h : RowI P tk R sz T w B mb n vals f) {t te : TypeId} (hk : P.underlying tk = some (.int .i64)) (ht : P.underlying t = some (.map tk te)) (hz : (zeroValue te).run P w = .ok (.slice none 0 0) w) (p : Int) (hp : -1000000000000000 ≤ p ∧ p ≤ 1000000000000000) :
    (Instr.lookup t (.map (some mb)) (.int .i64 p) true).run P w = .ok (.tuple #[vals p, .bool !(f p).isEmpty]) w := by
  have h1 := h.map.look_ok hk ht hz p hp
  rw [h1]
  by_cases hf : f p = []
  · simp [hf, h.nil p hf]
  · simp [hf]
/-- The map is written to. -/
theorem RowI.putAt {W0 : World} {t te : TypeId} (h : RowI P tk R sz T w B mb n vals f) (hkt : P.underlying tk = some (.int .i64)) (ht : P.underlying t = some (.map tk te)) (hmB : mb < B) {p : Int} (hg : W0.grownBy w' (vals p).ownBlock) (hk : All w W0) (hn : n ≤ 1000000) (hp : -1000000000000000 ≤ p ∧ p ≤ 1000000000000000) (v' : Value) :
    ∃ w2, (Instr.mapUpdate t (.map (some mb)) (.int .i64 p) v').run P w' = .ok () w2 ∧ MapI P tk w2 mb (n + 1) (putI (fun p => if (f p).isEmpty = true then none else some (vals p)) p v') ∧ But mb w' w2 := by
  have h0 := h.map.keep hk trivial
  have hkp : Kept (fun k => (vals p).ownBlock ≠ some k) W0 w' := ⟨hg.os, hg.tape, hg.output, hg.size, fun k hk hf => hg.block k hk (fun e => hf e.symm)⟩
  have h1 := h0.keep hkp (fun e => by have := ((h.acc p).lt _ e).1; omega)
  exact h1.put hkt ht hn p hp v'
/-- One element more. -/
theorem RowI.push (hR : Flat R enc S sz) (h : RowI P tk R sz T w B mb n vals f) (hmB : mb < B) {p : Int} {x : α} {v' : Value} (hacc : Acc R sz T (fun _ => False) B w' v' (f p ++ [x])) (hg : w.grownBy w' (vals p).ownBlock) (hat : v'.ownBlock = (vals p).ownBlock ∨ v'.ownBlock = some w.heap.size)
    (hm : MapI P tk w2 mb (n + 1) (putI (fun p => if (f p).isEmpty = true then none else some (vals p)) p v')) (hb : But mb w' w2) :
    RowI P tk R sz T w2 B mb (n + 1) (fun q => if q = p then v' else vals q) (fun q => if q = p then f p ++ [x] else f q) := by
  have hkp : Kept (fun k => (vals p).ownBlock ≠ some k) w w' := ⟨hg.os, hg.tape, hg.output, hg.size, fun k hk hf => hg.block k hk (fun e => hf e.symm)⟩
  refine ⟨hm.congr (fun q => ?_), fun q => ?_, fun q hq => ?_, fun a b k hab ha => ?_⟩
  · by_cases hq : q = p
    · subst hq; simp [putI]
    · simp [putI, hq]
  · by_cases hq : q = p
    · subst hq
      simp only [if_true]
      exact hacc.flatKeep hR hb (fun k hk => by have := (hacc.lt k hk).1; omega)
    · simp only [hq, if_false]
      have h1 := (h.acc q).flatKeep hR hkp (fun k hk e => h.sep q p k hq hk e)
      exact h1.flatKeep hR hb (fun k hk => by have := (h1.lt k hk).1; omega)
  · by_cases hqp : q = p
    · simp [hqp] at hq
    · simp only [hqp, if_false] at hq ⊢
      exact h.nil q hq
  · by_cases hap : a = p
    · subst hap
      have hbp : ¬ b = a := fun e => hab e.symm
      simp only [if_true] at ha
      simp only [hbp, if_false]
      rcases hat with e | e
      · rw [e] at ha; exact h.sep a b k hab ha
      · rw [e] at ha
        cases ha
        intro hk
        have := ((h.acc b).lt _ hk).2
        omega
    · simp only [hap, if_false] at ha
      by_cases hbp : b = p
      · subst hbp
        simp only [if_true]
        intro hk
        rcases hat with e | e
        · rw [e] at hk; exact h.sep a b k hab ha hk
        · rw [e] at hk
          cases hk
          have := ((h.acc a).lt _ ha).2
          omega
      · simp only [hbp, if_false]
        exact h.sep a b k hab ha
/-- As putAt and push, with other steps between the append and the store. -/
theorem RowI.putLate {w3 : World} {t te : TypeId} (h : RowI P tk R sz T w B mb n vals f) (hkt : P.underlying tk = some (.int .i64)) (ht : P.underlying t = some (.map tk te)) (hmB : mb < B) {p : Int} (hg : w.grownBy w' (vals p).ownBlock) (hl : All w' w3) (hn : n ≤ 1000000) (hp : -1000000000000000 ≤ p ∧ p ≤ 1000000000000000) (v' : Value) :
    ∃ w2, (Instr.mapUpdate t (.map (some mb)) (.int .i64 p) v').run P w3 = .ok () w2 ∧ MapI P tk w2 mb (n + 1) (putI (fun p => if (f p).isEmpty = true then none else some (vals p)) p v') ∧ But mb w3 w2 := by
  have hkp : Kept (fun k => (vals p).ownBlock ≠ some k) w w' := ⟨hg.os, hg.tape, hg.output, hg.size, fun k hk hf => hg.block k hk (fun e => hf e.symm)⟩
  have h1 := (h.map.keep hkp (fun e => by have := ((h.acc p).lt _ e).1; omega)).keep hl trivial
  exact h1.put hkt ht hn p hp v'
theorem RowI.pushLate {w3 : World} (hR : Flat R enc S sz) (h : RowI P tk R sz T w B mb n vals f) (hmB : mb < B) {p : Int} {x : α} {v' : Value} (hacc : Acc R sz T (fun _ => False) B w' v' (f p ++ [x])) (hg : w.grownBy w' (vals p).ownBlock) (hat : v'.ownBlock = (vals p).ownBlock ∨ v'.ownBlock = some w.heap.size) (hl : All w' w3)
    (hm : MapI P tk w2 mb (n + 1) (putI (fun p => if (f p).isEmpty = true then none else some (vals p)) p v')) (hb : But mb w3 w2) :
    RowI P tk R sz T w2 B mb (n + 1) (fun q => if q = p then v' else vals q) (fun q => if q = p then f p ++ [x] else f q) :=
  RowI.push hR h hmB hacc hg hat hm ((Kept.all hl).trans hb)
end
/-- A look-up behind an append to a row. -/
theorem MapI.lookAfter {P : Program} {k t te : TypeId} {w w' : World} {b n : Nat} {G : Nat → Prop} {f : Int → List Int} {vals : Int → Value} (h : MapI P k w b n (fun p => if (f p).isEmpty = true then none else some (vals p))) (hk : Kept G w w') (hG : G b) (hkt : P.underlying k = some (.int .i64)) (ht : P.underlying t = some (.map k te)) (hz : (zeroValue te).run P w' = .ok (.slice none 0 0) w') (hnil : ∀ p, f p = [] → vals p = .slice none 0 0) {p : Int} (hp : -1000000000000000 ≤ p ∧ p ≤ 1000000000000000) :
    (Instr.lookup t (.map (some b)) (.int .i64 p) false).run P w' = .ok (vals p) w' := by
  have h1 := (h.keep hk hG).look hkt ht hz p hp
  rw [h1]
  by_cases hf : f p = []
  · simp [hf, hnil p hf]
  · simp [hf]
theorem grown_cellI {W0 w7 : World} {row : Option Nat} {p : Addr} {v : Value} (hg : W0.grownBy w7 row) (hc : W0.cell? p = some v) (hne : row ≠ some p.block) : w7.cell? p = some v := by
  have hk : Kept (fun k => row ≠ some k) W0 w7 := ⟨hg.os, hg.tape, hg.output, hg.size, fun k hk hf => hg.block k hk (fun e => hf e.symm)⟩
  exact hk.cell hc hne
end Go.Proofs.YtllkemadaemjeaaGreatDoor

/- Forests: nodes above 0 whose parents are less; the walk down from node 0 puts them in the order of their ways. No program in sight. -/
namespace Go.Proofs.YtllkemadaemjeaaGreatDoor
open Go.RowKit

/-- A list is before another one: by the first place at which they part; what goes on is behind what ends. -/
def lexL : List Nat → List Nat → Bool
  | _, [] => false
  | [], _ :: _ => true
  | a :: l, b :: m => decide (a < b) || (decide (a = b) && lexL l m)
theorem lexL_irrefl : ∀ l : List Nat, lexL l l = false
  | [] => rfl
  | a :: l => by simp [lexL, lexL_irrefl l]
theorem lexL_trans : ∀ {a b c : List Nat}, lexL a b = true → lexL b c = true → lexL a c = true
  | _, [], _, h, _ => by simp [lexL] at h
  | _, _ :: _, [], _, h => by simp [lexL] at h
  | [], _ :: _, _ :: _, _, _ => rfl
  | x :: a, y :: b, z :: c, h1, h2 => by
    simp only [lexL, Bool.or_eq_true, decide_eq_true_eq, Bool.and_eq_true] at *
    rcases h1 with h1 | ⟨rfl, h1⟩
    · rcases h2 with h2 | ⟨rfl, h2⟩
      · exact Or.inl (by omega)
      · exact Or.inl h1
    · rcases h2 with h2 | ⟨rfl, h2⟩
      · exact Or.inl h2
      · exact Or.inr ⟨rfl, lexL_trans h1 h2⟩
theorem lexL_total : ∀ {a b : List Nat}, lexL a b = false → lexL b a = false → a = b
  | [], [], _, _ => rfl
  | [], _ :: _, h, _ => by simp [lexL] at h
  | _ :: _, [], _, h => by simp [lexL] at h
  | x :: a, y :: b, h1, h2 => by
    simp only [lexL, Bool.or_eq_false_iff, decide_eq_false_iff_not, Bool.and_eq_false_iff] at h1 h2
    have e : x = y := by omega
    subst e
    rw [lexL_total (h1.2.resolve_left (by simp)) (h2.2.resolve_left (by simp))]
theorem lexL_append (w : List Nat) (a b : List Nat) : lexL (w ++ a) (w ++ b) = lexL a b := by
  induction w with
  | nil => rfl
  | cons x w ih => simp [lexL, ih]
theorem lexL_end (w : List Nat) {s : List Nat} (h : s ≠ []) : lexL w (w ++ s) = true := by
  have := lexL_append w [] s
  rw [List.append_nil] at this
  rw [this]
  cases s with
  | nil => exact absurd rfl h
  | cons _ _ => rfl

/-- The walk down: what is below t, each at its depth. -/
def thr (ks : Nat → List Nat) : Nat → Nat → Nat → List (Nat × Nat)
  | 0, _, _ => []
  | f + 1, t, d => (ks t).flatMap fun n => (n, d) :: thr ks f n (d + 1)

/-- Ways and children fit each other. -/
structure Tree (ks : Nat → List Nat) (way : Nat → List Nat) : Prop where
  rise : ∀ t, (ks t).Pairwise (· < ·)
  down : ∀ t n, n ∈ ks t → way n = way t ++ [n]
  root : way 0 = []

theorem thr_ways {ks : Nat → List Nat} {way : Nat → List Nat} (h : Tree ks way) : ∀ (f t d : Nat), d = (way t).length →
    (∀ x ∈ thr ks f t d, ∃ n s, n ∈ ks t ∧ way x.1 = way t ++ n :: s ∧ x.2 + 1 = (way x.1).length) ∧ (thr ks f t d).Pairwise (fun x y => lexL (way x.1) (way y.1) = true)
  | 0, _, _, _ => ⟨by simp [thr], by simp [thr]⟩
  | f + 1, t, d, hd => by
    have blk : ∀ n ∈ ks t, (∀ x ∈ (n, d) :: thr ks f n (d + 1), ∃ s, way x.1 = way t ++ n :: s ∧ x.2 + 1 = (way x.1).length) ∧ ((n, d) :: thr ks f n (d + 1)).Pairwise (fun x y => lexL (way x.1) (way y.1) = true) := by
      intro n hn
      have hw := h.down t n hn
      obtain ⟨h1, h2⟩ := thr_ways h f n (d + 1) (by rw [hw]; simp [hd])
      have hsub : ∀ x ∈ thr ks f n (d + 1), ∃ m s, way x.1 = way n ++ m :: s ∧ x.2 + 1 = (way x.1).length := fun x hx => by
        obtain ⟨m, s, -, e1, e2⟩ := h1 x hx
        exact ⟨m, s, e1, e2⟩
      refine ⟨fun x hx => ?_, List.pairwise_cons.2 ⟨fun y hy => ?_, h2⟩⟩
      · rcases List.mem_cons.1 hx with rfl | hx
        · exact ⟨[], by simpa using hw, by rw [hw]; simp [hd]⟩
        · obtain ⟨m, s, e1, e2⟩ := hsub x hx
          exact ⟨m :: s, by rw [e1, hw]; simp, e2⟩
      · obtain ⟨m, s, e1, -⟩ := hsub y hy
        rw [e1]
        exact lexL_end _ (by simp)
    have go : ∀ l : List Nat, l.Pairwise (· < ·) → (∀ n ∈ l, n ∈ ks t) → (∀ x ∈ l.flatMap (fun n => (n, d) :: thr ks f n (d + 1)), ∃ n s, n ∈ l ∧ way x.1 = way t ++ n :: s ∧ x.2 + 1 = (way x.1).length) ∧ (l.flatMap (fun n => (n, d) :: thr ks f n (d + 1))).Pairwise (fun x y => lexL (way x.1) (way y.1) = true) := by
      intro l
      induction l with
      | nil => exact fun _ _ => ⟨by simp, by simp⟩
      | cons n l ih =>
        intro hl hm
        rw [List.pairwise_cons] at hl
        obtain ⟨i1, i2⟩ := ih hl.2 (fun m hm' => hm m (by simp [hm']))
        obtain ⟨b1, b2⟩ := blk n (hm n (by simp))
        rw [List.flatMap_cons]
        refine ⟨fun x hx => ?_, List.pairwise_append.2 ⟨b2, i2, fun x hx y hy => ?_⟩⟩
        · rcases List.mem_append.1 hx with hx | hx
          · obtain ⟨s, e1, e2⟩ := b1 x hx
            exact ⟨n, s, by simp, e1, e2⟩
          · obtain ⟨m, s, e0, e1, e2⟩ := i1 x hx
            exact ⟨m, s, by simp [e0], e1, e2⟩
        · obtain ⟨s, e1, -⟩ := b1 x hx
          obtain ⟨m, s2, e0, e2, -⟩ := i1 y hy
          rw [e1, e2, lexL_append]
          simp [lexL, hl.1 m e0]
    exact go (ks t) (h.rise t) (fun _ h => h)

/-- A way down from t. -/
def WayDown (ks : Nat → List Nat) : Nat → List Nat → Prop
  | _, [] => True
  | t, n :: l => n ∈ ks t ∧ WayDown ks n l
theorem WayDown.snoc {ks : Nat → List Nat} : ∀ {l : List Nat} {t m : Nat}, WayDown ks t l → m ∈ ks ((t :: l).getLast (by simp)) → WayDown ks t (l ++ [m])
  | [], t, m, _, h => ⟨by simpa using h, trivial⟩
  | n :: l, t, m, h, hm => ⟨h.1, WayDown.snoc h.2 (by simpa using hm)⟩
theorem thr_mem {ks : Nat → List Nat} : ∀ {l : List Nat} {f t d n : Nat}, WayDown ks t (l ++ [n]) → l.length < f → (n, d + l.length) ∈ thr ks f t d
  | [], 0, _, _, _, _, h => by simp at h
  | [], f + 1, t, d, n, h, _ => by
    simp only [thr, List.mem_flatMap]
    exact ⟨n, h.1, by simp⟩
  | m :: l, 0, _, _, _, _, h => by simp at h
  | m :: l, f + 1, t, d, n, h, hf => by
    simp only [thr, List.mem_flatMap]
    refine ⟨m, h.1, List.mem_cons_of_mem _ ?_⟩
    have := thr_mem (f := f) (d := d + 1) h.2 (by simp at hf; omega)
    rw [List.length_cons, show d + (l.length + 1) = d + 1 + l.length by omega]
    exact this
end Go.Proofs.YtllkemadaemjeaaGreatDoor

/- SilentOf and UnansweredOf: what they answer; the reference's walks. -/
namespace Go.Proofs.YtllkemadaemjeaaGreatDoor
open Go.RowKit

/-- y answers x, and is another person's. -/
def ansB (x y : Post6) : Bool := decide (y.ans = x.no) && decide (y.person ≠ x.person)
def unansL (xs ys : List Post6) : List Int := (ys.filter fun x => !xs.any (ansB x)).map Post6.no
def talkB (key who : ByteArray) (y : Post6) : Bool := decide (y.paper = key) && decide (y.person = who)
def silentL (xs : List Post6) (key : ByteArray) (ps : List Pair2) : List ByteArray := (ps.filter fun p => decide (p.paper = key) && !xs.any (talkB key p.person)).map Pair2.person
theorem bytes_ne3 {a b : ByteArray} (h : a ≠ b) : (a.toList == b.toList) = false := by
  rw [beq_eq_false_iff_ne]
  exact fun e => h (bytes_ext e)
theorem unansL_snoc (xs ys : List Post6) (x : Post6) : unansL xs (ys ++ [x]) = unansL xs ys ++ (if xs.any (ansB x) = true then [] else [x.no]) := by
  unfold unansL
  rw [List.filter_append, List.map_append]
  congr 1
  cases h : xs.any (ansB x) <;> simp [h]
theorem silentL_snoc (xs : List Post6) (key : ByteArray) (ps : List Pair2) (p : Pair2) : silentL xs key (ps ++ [p]) = silentL xs key ps ++ (if p.paper = key then (if xs.any (talkB key p.person) = true then [] else [p.person]) else []) := by
  unfold silentL
  rw [List.filter_append, List.map_append]
  congr 1
  by_cases hk : p.paper = key
  · cases h : xs.any (talkB key p.person) <;> simp [h, hk]
  · simp [hk]

set_option maxHeartbeats 1600000 in
theorem unans1_any (xb : Nat) (x y : Post6) (w : World) (hx : w.cell? ⟨xb, 0, none⟩ = some (.int .i64 x.no) ∧ w.cell? ⟨xb, 3, none⟩ = some (.string x.person)) :
    Calls Tryz.prog 99 #[.agg #[.int .i64 y.no, .int .i64 y.tm, .string y.paper, .string y.person, .int .i64 y.ans, .string y.words], .pointer (some ⟨xb, 0, none⟩)] w fun e w' => e = .returned (.bool (ansB x y)) ∧ All w w' := by
  have hk : All w (w.alloc (.cells #[.int .i64 y.no, .int .i64 y.tm, .string y.paper, .string y.person, .int .i64 y.ans, .string y.words] 58)) := Kept.alloc _ _ _
  have hblk := heap_at w (.cells #[.int .i64 y.no, .int .i64 y.tm, .string y.paper, .string y.person, .int .i64 y.ans, .string y.words] 58) _ rfl
  have p3 := cell_at (i := 3) hblk rfl
  have p4 := cell_at (i := 4) hblk rfl
  have x0 := hk.cell hx.1 trivial
  have x3 := hk.cell hx.2 trivial
  obtain ⟨ob, hob⟩ : ∃ o, o = ansB x y := ⟨_, rfl⟩
  have HO := Lib.hid hob
  rw [← hob]
  clear hx hblk hob
  by_cases h1 : y.ans = x.no
  · have q0 : (y.ans == x.no) = true := by simpa using h1
    by_cases h2 : y.person = x.person
    · have q1 : (y.person.toList == x.person.toList) = true := by simp [h2]
      have HF := Lib.hid (show ob = false by rw [HO.out]; simp [ansB, h2])
      clear h1 h2
      go_enter Tryz.func99, Tryz.ntmps99
      go_wp2_with fail
      go_ret
      exact ⟨by rw [HF.out]; rfl, hk⟩
    · have q1 := bytes_ne3 h2
      have HF := Lib.hid (show ob = true by rw [HO.out]; simp [ansB, h1, h2])
      clear h1 h2
      go_enter Tryz.func99, Tryz.ntmps99
      go_wp2_with fail
      go_ret
      exact ⟨by rw [HF.out]; rfl, hk⟩
  · have q0 : (y.ans == x.no) = false := by simpa using h1
    have HF := Lib.hid (show ob = false by rw [HO.out]; simp [ansB, h1])
    clear h1
    go_enter Tryz.func99, Tryz.ntmps99
    go_wp2_with fail
    go_ret
    exact ⟨by rw [HF.out]; rfl, hk⟩

set_option maxHeartbeats 1600000 in
theorem silent1_any (kb xb : Nat) (key : ByteArray) (who : ByteArray) (y : Post6) (w : World) (hx : w.cell? ⟨kb, 0, none⟩ = some (.string key) ∧ w.cell? ⟨xb, 1, none⟩ = some (.string who)) :
    Calls Tryz.prog 98 #[.agg #[.int .i64 y.no, .int .i64 y.tm, .string y.paper, .string y.person, .int .i64 y.ans, .string y.words], .pointer (some ⟨kb, 0, none⟩), .pointer (some ⟨xb, 0, none⟩)] w fun e w' => e = .returned (.bool (talkB key who y)) ∧ All w w' := by
  have hk : All w (w.alloc (.cells #[.int .i64 y.no, .int .i64 y.tm, .string y.paper, .string y.person, .int .i64 y.ans, .string y.words] 58)) := Kept.alloc _ _ _
  have hblk := heap_at w (.cells #[.int .i64 y.no, .int .i64 y.tm, .string y.paper, .string y.person, .int .i64 y.ans, .string y.words] 58) _ rfl
  have p2 := cell_at (i := 2) hblk rfl
  have p3 := cell_at (i := 3) hblk rfl
  have x0 := hk.cell hx.1 trivial
  have x3 := hk.cell hx.2 trivial
  obtain ⟨ob, hob⟩ : ∃ o, o = talkB key who y := ⟨_, rfl⟩
  have HO := Lib.hid hob
  rw [← hob]
  clear hx hblk hob
  by_cases h1 : y.paper = key
  · have q0 : (y.paper.toList == key.toList) = true := by simp [h1]
    by_cases h2 : y.person = who
    · have q1 : (y.person.toList == who.toList) = true := by simp [h2]
      have HF := Lib.hid (show ob = true by rw [HO.out]; simp [talkB, h1, h2])
      clear h1 h2
      go_enter Tryz.func98, Tryz.ntmps98
      go_wp2_with fail
      go_ret
      exact ⟨by rw [HF.out]; rfl, hk⟩
    · have q1 := bytes_ne3 h2
      have HF := Lib.hid (show ob = false by rw [HO.out]; simp [talkB, h2])
      clear h1 h2
      go_enter Tryz.func98, Tryz.ntmps98
      go_wp2_with fail
      go_ret
      exact ⟨by rw [HF.out]; rfl, hk⟩
  · have q0 := bytes_ne3 h1
    have HF := Lib.hid (show ob = false by rw [HO.out]; simp [talkB, h1])
    clear h1
    go_enter Tryz.func98, Tryz.ntmps98
    go_wp2_with fail
    go_ret
    exact ⟨by rw [HF.out]; rfl, hk⟩

set_option maxRecDepth 100000 in
set_option maxHeartbeats 6400000 in
theorem unansweredOf_any (a : Option Addr) (len cap : Nat) (xs : List Post6) (w : World) (hs : Sl RPost 6 (fun _ => True) w a len xs) (hl : len ≤ 1000000) :
    Calls Tryz.prog 50 #[.slice a len cap] w fun e w' => ∃ v, e = .returned v ∧ Acc RInt 1 3 (fun _ => False) w.heap.size w' v (unansL xs xs) ∧ All w w' := by
  have Hlen := Lib.hid hs.len
  have ef : ∀ args w, (callFunc 99 args).run Tryz.prog w = .ok (.enter 99 args) w := enters_of Tryz.func99 (by kernel_rfl) rfl
  have HS := Lib.hid (fun (wx : World) (k : All w wx) => hs.keep RPost.ok k)
  clear hs
  go_enter Tryz.func50, Tryz.ntmps50
  go_wp2_with fail
  go_loopw [3, 8] (fun v i wr => ∃ (k : Nat) (es : List Int), k ≤ len ∧ i = .int .i64 k ∧ es = unansL xs (xs.take k) ∧ es.length ≤ k ∧ Acc RInt 1 3 (fun _ => False) w.heap.size wr v es ∧ All w wr) (fun _ i _ => len - (intOf i).toNat)
  case atStart => exact ⟨0, [], Nat.zero_le _, rfl, by simp [unansL], Nat.le_refl _, Acc.nil _ _ _ _ _ _, Kept.refl _ _⟩
  case round =>
    obtain ⟨k, es, hk, rfl, hes, hel, hacc, hwr⟩ := hrel
    obtain ⟨w1, rfl⟩ : ∃ wo : World, wo = wr := ⟨_, rfl⟩
    have HES := Lib.hid hes
    clear hes
    obtain ⟨av, cv, rfl, hcv⟩ := hacc.form
    obtain ⟨m, hm⟩ : ∃ m, m = es.length := ⟨_, rfl⟩
    have HM := Lib.hid hm
    rw [← hm] at hacc hel hcv ⊢
    clear hm
    by_cases hlt : k < len
    · have hsk := HS.out _ hwr
      obtain ⟨b, off, x, ha, -, c0, c1, c2, c3, c4, c5, -, hx, htk⟩ := hsk.atPost hlt
      subst ha
      have HX := Lib.hid htk
      have hka : All w1 (w1.alloc (.cells #[.int .i64 x.no, .int .i64 x.tm, .string x.paper, .string x.person, .int .i64 x.ans, .string x.words] 58)) := Kept.alloc _ _ _
      have hblk := heap_at w1 (.cells #[.int .i64 x.no, .int .i64 x.tm, .string x.paper, .string x.person, .int .i64 x.ans, .string x.words] 58) _ rfl
      have hwa := hwr.trans hka
      have HC := Lib.hid (containsFuncPost_any 99 #[.pointer (some ⟨w1.heap.size, 0, none⟩)] ef (ansB x) (fun _ => True) (some ⟨b, off, none⟩) len cap xs _ (hsk.keep RPost.ok hka) hl (fun y _ wx k => unans1_any w1.heap.size x y wx ⟨k.cell (cell_at (i := 0) hblk rfl) trivial, k.cell (cell_at (i := 3) hblk rfl) trivial⟩))
      have HAC := Lib.hid (fun (wx : World) (k : All (w1.alloc (.cells #[.int .i64 x.no, .int .i64 x.tm, .string x.paper, .string x.person, .int .i64 x.ans, .string x.words] 58)) wx) => hacc.keepAll RInt.ok (hka.trans k))
      have HB0 := Lib.hid (fun (wx : World) (k : All (w1.alloc (.cells #[.int .i64 x.no, .int .i64 x.tm, .string x.paper, .string x.person, .int .i64 x.ans, .string x.words] 58)) wx) => k.cell (cell_at (i := 0) hblk rfl) trivial)
      have hszw : w.heap.size ≤ (w1.alloc (.cells #[.int .i64 x.no, .int .i64 x.tm, .string x.paper, .string x.person, .int .i64 x.ans, .string x.words] 58)).heap.size := hwa.size
      clear hblk hx hsk hacc
      obtain ⟨tk, htk2⟩ : ∃ t, t = xs.any (ansB x) := ⟨_, rfl⟩
      have HTK := Lib.hid htk2
      rw [← htk2] at HC
      clear htk htk2
      go_wp2_with fail
      refine HC.out.mono ?_
      rintro e w3 ⟨rfl, hw3⟩
      have hac3 := HAC.out _ hw3
      have p0 := HB0.out _ hw3
      have hwt := hwa.trans hw3
      have hsz3 := hwt.size
      clear c0 c1 c2 c3 c4 c5 hka hwa hw3 hszw
      cases tk with
      | true =>
        go_wp2_with fail
        go_roundw
        case rel => exact ⟨k + 1, es, by omega, by go_num, by rw [HX.out, unansL_snoc, if_pos HTK.out.symm, List.append_nil]; exact HES.out, by rw [← HM.out]; omega, hac3, hwt⟩
        case measure => simp [intOf]; omega
      | false =>
        go_wp2_with (at_builtin; refine wp_append1 RInt.ok _ rfl _ _ 22 rfl w.heap.size 3 (.int .i64 0) 1 8 Tryz.underlying22 (by kernel_rfl) rfl (by decide) (fun _ => False) _ es rfl (hac3.keepAll RInt.ok (Kept.alloc _ _ _)) ⟨_, 0, none⟩ 1 [.int .i64 x.no] rfl rfl (World.news_of_block (cs := #[.int .i64 x.no]) (heap_at _ _ _ (by simp))) (by simp [Value.oneCell']) x.no rfl (by have := HM.out; omega) (by decide) (by simp; omega) ?_)
        intro p8 c8 w9 hac9 hgrow _
        have hk9 : All w w9 := by
          refine hwt.trans2 ((Kept.refl (fun k => k < w.heap.size) w3).then_alloc _ |>.grown hgrow (fun k hk => Or.inr (by have := (hac3.lt k hk).1; omega))) (fun i hi _ => hi)
        clear hgrow hac3
        go_wp2_with fail
        go_roundw
        case rel => exact ⟨k + 1, es ++ [x.no], by omega, by go_num, by rw [HX.out, unansL_snoc, if_neg (fun h => by rw [← HTK.out] at h; cases h)]; exact congrArg (· ++ _) HES.out, by rw [List.length_append, ← HM.out]; simp; omega, hac9, hk9⟩
        case measure => simp [intOf]; omega
    · have hd : decide ((k : Int) < (len : Int)) = false := by simp; omega
      have HAC := Lib.hid hacc
      clear hacc
      go_wp2_with fail
      go_ret
      have hes : es = unansL xs xs := by rw [HES.out, List.take_of_length_le (by have := Hlen.out; omega)]
      exact ⟨_, rfl, by rw [← hes]; exact HAC.out, hwr⟩
end Go.Proofs.YtllkemadaemjeaaGreatDoor

/- SilentOf: the reference's walk. -/
namespace Go.Proofs.YtllkemadaemjeaaGreatDoor
open Go.RowKit

set_option maxRecDepth 100000 in
set_option maxHeartbeats 6400000 in
theorem silentOf_any (a0 : Option Addr) (l0 c0 : Nat) (a1 : Option Addr) (l1 c1 : Nat) (a2 : Option Addr) (l2 c2 : Nat) (a3 : Option Addr) (l3 c3 : Nat) (b : Board4) (a : Option Addr) (len cap : Nat) (xs : List Post6) (key : ByteArray) (w : World) (h : BoardIs w a0 l0 a1 l1 a2 l2 a3 l3 b) (hs : Sl RPost 6 (fun _ => True) w a len xs) (hl : len ≤ 1000000) :
    Calls Tryz.prog 48 #[.agg #[.slice a0 l0 c0, .slice a1 l1 c1, .slice a2 l2 c2, .slice a3 l3 c3], .slice a len cap, .string key] w fun e w' => ∃ v, e = .returned v ∧ Acc RStr 1 9 (fun _ => False) w.heap.size w' v (silentL xs key b.pairs) ∧ All w w' := by
  have Hlen := Lib.hid h.pairs.len
  have hn0 := h.n0
  have ef : ∀ args w, (callFunc 98 args).run Tryz.prog w = .ok (.enter 98 args) w := enters_of Tryz.func98 (by kernel_rfl) rfl
  have hk1 : All w ((w.alloc (.cells #[.slice a0 l0 c0, .slice a1 l1 c1, .slice a2 l2 c2, .slice a3 l3 c3] 50)).alloc (.cells #[.string key] 9)) := (Kept.alloc _ _ _).then_alloc _
  have hblkB := heap_old (.cells #[.string key] 9) (heap_at w (.cells #[.slice a0 l0 c0, .slice a1 l1 c1, .slice a2 l2 c2, .slice a3 l3 c3] 50) _ rfl)
  have hblkK := heap_at (w.alloc (.cells #[.slice a0 l0 c0, .slice a1 l1 c1, .slice a2 l2 c2, .slice a3 l3 c3] 50)) (.cells #[.string key] 9) (w.heap.size + 1) (by simp)
  obtain ⟨bb, hbb⟩ : ∃ k, k = w.heap.size := ⟨_, rfl⟩
  have HBB := Lib.hid hbb
  rw [← hbb] at hblkB hblkK
  have hszq : w.heap.size ≤ ((w.alloc (.cells #[.slice a0 l0 c0, .slice a1 l1 c1, .slice a2 l2 c2, .slice a3 l3 c3] 50)).alloc (.cells #[.string key] 9)).heap.size := hk1.size
  have HS := Lib.hid (fun (wx : World) (k : All ((w.alloc (.cells #[.slice a0 l0 c0, .slice a1 l1 c1, .slice a2 l2 c2, .slice a3 l3 c3] 50)).alloc (.cells #[.string key] 9)) wx) => hs.keep RPost.ok (hk1.trans k))
  have HP := Lib.hid (fun (wx : World) (k : All ((w.alloc (.cells #[.slice a0 l0 c0, .slice a1 l1 c1, .slice a2 l2 c2, .slice a3 l3 c3] 50)).alloc (.cells #[.string key] 9)) wx) => h.pairs.keep RPair.ok (hk1.trans k))
  have HBC := Lib.hid (fun (wx : World) (k : All ((w.alloc (.cells #[.slice a0 l0 c0, .slice a1 l1 c1, .slice a2 l2 c2, .slice a3 l3 c3] 50)).alloc (.cells #[.string key] 9)) wx) => k.cell (cell_at (i := 0) hblkB rfl) trivial)
  have HKC := Lib.hid (fun (wx : World) (k : All ((w.alloc (.cells #[.slice a0 l0 c0, .slice a1 l1 c1, .slice a2 l2 c2, .slice a3 l3 c3] 50)).alloc (.cells #[.string key] 9)) wx) => k.cell (cell_at (i := 0) hblkK rfl) trivial)
  have HK1 := Lib.hid hk1
  obtain ⟨ps, hps⟩ : ∃ ps, ps = b.pairs := ⟨_, rfl⟩
  rw [← hps] at HP Hlen ⊢
  clear hs h hblkB hblkK hbb hk1 hps
  have b0 := HBC.out _ (Kept.refl _ _)
  go_enter Tryz.func48, Tryz.ntmps48
  go_upto_region 3 with fail
  simp only [← HBB.out]
  generalize (w.alloc (.cells #[.slice a0 l0 c0, .slice a1 l1 c1, .slice a2 l2 c2, .slice a3 l3 c3] 50)).alloc (.cells #[.string key] 9) = wq at *
  clear b0
  go_loopw [7, 14] (fun v i wr => ∃ (k : Nat) (es : List ByteArray), k ≤ l0 ∧ i = .int .i64 k ∧ es = silentL xs key (ps.take k) ∧ es.length ≤ k ∧ Acc RStr 1 9 (fun _ => False) wq.heap.size wr v es ∧ All wq wr) (fun _ i _ => l0 - (intOf i).toNat)
  case atStart => exact ⟨0, [], Nat.zero_le _, rfl, by simp [silentL], Nat.le_refl _, Acc.nil _ _ _ _ _ _, Kept.refl _ _⟩
  case round =>
    obtain ⟨k, es, hk, rfl, hes, hel, hacc, hwr⟩ := hrel
    obtain ⟨w1, rfl⟩ : ∃ wo : World, wo = wr := ⟨_, rfl⟩
    have HES := Lib.hid hes
    clear hes
    obtain ⟨av, cv, rfl, hcv⟩ := hacc.form
    obtain ⟨m, hm⟩ : ∃ m, m = es.length := ⟨_, rfl⟩
    have HM := Lib.hid hm
    rw [← hm] at hacc hel hcv ⊢
    clear hm
    by_cases hlt : k < l0
    · obtain ⟨pb, off, x, ha, -, q0, q1, hx, -, htk⟩ := (HP.out _ hwr).atPair hlt
      subst ha
      have HX := Lib.hid htk
      have hka : All w1 (w1.alloc (.cells #[.string x.paper, .string x.person] 101)) := Kept.alloc _ _ _
      have hblk := heap_at w1 (.cells #[.string x.paper, .string x.person] 101) _ rfl
      have hwa := hwr.trans hka
      have HC := Lib.hid (containsFuncPost_any 98 #[.pointer (some ⟨bb + 1, 0, none⟩), .pointer (some ⟨w1.heap.size, 0, none⟩)] ef (talkB key x.person) (fun _ => True) a len cap xs _ (HS.out _ hwa) hl (fun y _ wx k => silent1_any (bb + 1) w1.heap.size key x.person y wx ⟨HKC.out _ (hwa.trans k), k.cell (cell_at (i := 1) hblk rfl) trivial⟩))
      have HAC := Lib.hid (fun (wx : World) (k : All (w1.alloc (.cells #[.string x.paper, .string x.person] 101)) wx) => hacc.keepAll RStr.ok (hka.trans k))
      have HB0 := Lib.hid (fun (wx : World) (k : All (w1.alloc (.cells #[.string x.paper, .string x.person] 101)) wx) => (⟨k.cell (cell_at (i := 0) hblk rfl) trivial, k.cell (cell_at (i := 1) hblk rfl) trivial⟩ : _ ∧ _))
      have hszw : wq.heap.size ≤ (w1.alloc (.cells #[.string x.paper, .string x.person] 101)).heap.size := hwa.size
      have HZ := Lib.hid x.h2
      clear hblk hx hacc
      obtain ⟨tk, htk2⟩ : ∃ t, t = xs.any (talkB key x.person) := ⟨_, rfl⟩
      have HTK := Lib.hid htk2
      rw [← htk2] at HC
      clear htk htk2
      go_wp2_with fail
      refine HC.out.mono ?_
      rintro e w3 ⟨rfl, hw3⟩
      have hac3 := HAC.out _ hw3
      obtain ⟨p0, p1⟩ := HB0.out _ hw3
      have k0 := HKC.out _ (hwa.trans hw3)
      have hwt := hwa.trans hw3
      have hsz3 := hwt.size
      clear q0 q1 hka hwa hw3 hszw
      by_cases hpk : x.paper = key
      · have f0 : (x.paper.toList == key.toList) = true := by simp [hpk]
        cases tk with
        | true =>
          go_wp2_with fail
          go_roundw
          case rel => exact ⟨k + 1, es, by omega, by go_num, by rw [HX.out, silentL_snoc, if_pos hpk, if_pos HTK.out.symm, List.append_nil]; exact HES.out, by rw [← HM.out]; omega, hac3, hwt⟩
          case measure => simp [intOf]; omega
        | false =>
          go_wp2_with (at_builtin; refine wp_append1 RStr.ok _ rfl _ _ 26 rfl wq.heap.size 9 (.string ⟨#[]⟩) 1 16 Tryz.underlying26 (by kernel_rfl) rfl (by decide) (fun _ => False) _ es rfl (hac3.keepAll RStr.ok (Kept.alloc _ _ _)) ⟨_, 0, none⟩ 1 [.string x.person] rfl rfl (World.news_of_block (cs := #[.string x.person]) (heap_at _ _ _ (by simp))) (by simp [Value.oneCell']) x.person ⟨rfl, HZ.out⟩ (by have := HM.out; omega) (by decide) (by simp; omega) ?_)
          intro p8 c8 w9 hac9 hgrow _
          have hk9 : All wq w9 := by
            refine hwt.trans2 ((Kept.refl (fun k => k < wq.heap.size) w3).then_alloc _ |>.grown hgrow (fun k hk => Or.inr (by have := (hac3.lt k hk).1; omega))) (fun i hi _ => hi)
          clear hgrow hac3
          go_wp2_with fail
          go_roundw
          case rel => exact ⟨k + 1, es ++ [x.person], by omega, by go_num, by rw [HX.out, silentL_snoc, if_pos hpk, if_neg (fun h => by rw [← HTK.out] at h; cases h)]; exact congrArg (· ++ _) HES.out, by rw [List.length_append, ← HM.out]; simp; omega, hac9, hk9⟩
          case measure => simp [intOf]; omega
      · have f0 := bytes_ne3 hpk
        go_wp2_with fail
        go_roundw
        case rel => exact ⟨k + 1, es, by omega, by go_num, by rw [HX.out, silentL_snoc, if_neg hpk, List.append_nil]; exact HES.out, by rw [← HM.out]; omega, hac3, hwt⟩
        case measure => simp [intOf]; omega
    · have hd : decide ((k : Int) < (l0 : Int)) = false := by simp; omega
      have HAC := Lib.hid (hacc.base hszq)
      clear hacc
      go_wp2_with fail
      go_ret
      have hes : es = silentL xs key ps := by rw [HES.out, List.take_of_length_le (by have := Hlen.out; omega)]
      exact ⟨_, rfl, by rw [← hes]; exact HAC.out, HK1.out.trans hwr⟩
end Go.Proofs.YtllkemadaemjeaaGreatDoor

/- Silent answers silentL. -/
namespace Go.Proofs.YtllkemadaemjeaaGreatDoor
open Go.RowKit

/-- A row and a fault: the fault alone, or the row. -/
def RowPost {α : Type} (R : Rel α) (sz : Nat) (T : TypeId) (er : Int) (ys : List α) (w : World) (e : Ending) (w' : World) : Prop :=
  (er ≠ 0 → e = .returned (.tuple #[.slice none 0 0, .int .i64 er])) ∧ (er = 0 → ∃ v, e = .returned (.tuple #[v, .int .i64 0]) ∧ Acc R sz T (fun _ => False) w.heap.size w' v ys) ∧ All w w'
/-- The fault of a question about one paper. -/
noncomputable def keyE (b : Board4) (xs : List Post6) (key : ByteArray) : Int := if postsF b xs ≠ 0 then postsF b xs else if isKeyB key = true then 0 else 5
theorem any_snoc (xs : List Post6) (x : Post6) (key who : ByteArray) (h : x.paper = key) : (if who = x.person then true else xs.any (talkB key who)) = (xs ++ [x]).any (talkB key who) := by
  by_cases hw : who = x.person
  · simp [talkB, h, hw]
  · have hw2 : ¬ x.person = who := fun e => hw e.symm
    simp [talkB, hw, hw2]
theorem any_snoc_other (xs : List Post6) (x : Post6) (key who : ByteArray) (h : ¬ x.paper = key) : xs.any (talkB key who) = (xs ++ [x]).any (talkB key who) := by simp [talkB, h]

set_option maxRecDepth 100000 in
set_option maxHeartbeats 12800000 in
theorem silent_any (a0 : Option Addr) (l0 c0 : Nat) (a1 : Option Addr) (l1 c1 : Nat) (a2 : Option Addr) (l2 c2 : Nat) (a3 : Option Addr) (l3 c3 : Nat) (b : Board4) (a : Option Addr) (len cap : Nat) (xs : List Post6) (key : ByteArray) (w : World) (h : BoardIs w a0 l0 a1 l1 a2 l2 a3 l3 b) (hs : Sl RPost 6 (fun _ => True) w a len xs) (hl : len ≤ 1000000) (hcap : len ≤ cap) (hkz : key.size ≤ 1000000) (hg : Tabs w) :
    Calls Tryz.prog 42 #[.agg #[.slice a0 l0 c0, .slice a1 l1 c1, .slice a2 l2 c2, .slice a3 l3 c3], .slice a len cap, .string key] w (RowPost RStr 1 9 (keyE b xs key) (silentL xs key b.pairs) w) := by
  have Hlen := Lib.hid hs.len
  have Hlp := Lib.hid h.pairs.len
  have hn0 := h.n0
  have hk1 : All w (w.alloc (.cells #[.slice a0 l0 c0, .slice a1 l1 c1, .slice a2 l2 c2, .slice a3 l3 c3] 50)) := Kept.alloc _ _ _
  have hblkB := heap_at w (.cells #[.slice a0 l0 c0, .slice a1 l1 c1, .slice a2 l2 c2, .slice a3 l3 c3] 50) _ rfl
  obtain ⟨bb, hbb⟩ : ∃ k, k = w.heap.size := ⟨_, rfl⟩
  have HBB := Lib.hid hbb
  rw [← hbb] at hblkB
  have hszq : w.heap.size ≤ (w.alloc (.cells #[.slice a0 l0 c0, .slice a1 l1 c1, .slice a2 l2 c2, .slice a3 l3 c3] 50)).heap.size := hk1.size
  have HCP := Lib.hid (fun (wx : World) (k : All (w.alloc (.cells #[.slice a0 l0 c0, .slice a1 l1 c1, .slice a2 l2 c2, .slice a3 l3 c3] 50)) wx) => checkPosts_any a0 l0 c0 a1 l1 c1 a2 l2 c2 a3 l3 c3 b a len cap xs wx (h.keep (hk1.trans k)) (hs.keep RPost.ok (hk1.trans k)) hl hcap (hg.keep (hk1.trans k)))
  have HS := Lib.hid (fun (wx : World) (k : All (w.alloc (.cells #[.slice a0 l0 c0, .slice a1 l1 c1, .slice a2 l2 c2, .slice a3 l3 c3] 50)) wx) => hs.keep RPost.ok (hk1.trans k))
  have HP := Lib.hid (fun (wx : World) (k : All (w.alloc (.cells #[.slice a0 l0 c0, .slice a1 l1 c1, .slice a2 l2 c2, .slice a3 l3 c3] 50)) wx) => h.pairs.keep RPair.ok (hk1.trans k))
  have HBC := Lib.hid (fun (wx : World) (k : All (w.alloc (.cells #[.slice a0 l0 c0, .slice a1 l1 c1, .slice a2 l2 c2, .slice a3 l3 c3] 50)) wx) => (⟨k.cell (cell_at (i := 0) hblkB rfl) trivial, k.cell (cell_at (i := 1) hblkB rfl) trivial, k.cell (cell_at (i := 2) hblkB rfl) trivial, k.cell (cell_at (i := 3) hblkB rfl) trivial⟩ : _ ∧ _ ∧ _ ∧ _))
  have HK1 := Lib.hid hk1
  obtain ⟨ps, hps⟩ : ∃ ps, ps = b.pairs := ⟨_, rfl⟩
  rw [← hps] at HP Hlp ⊢
  obtain ⟨fe, hfe⟩ : ∃ x, x = postsF b xs := ⟨_, rfl⟩
  have HFE := Lib.hid hfe
  obtain ⟨er, her⟩ : ∃ x, x = keyE b xs key := ⟨_, rfl⟩
  have HER := Lib.hid (show er = if fe ≠ 0 then fe else if isKeyB key = true then 0 else 5 from by rw [her, hfe]; rfl)
  rw [← her]
  obtain ⟨b0, b1, b2, b3⟩ := HBC.out _ (Kept.refl _ _)
  clear hs h hg hblkB hbb hk1 hps hfe her
  go_enter Tryz.func42, Tryz.ntmps42
  go_wp2_with fail
  simp only [← HBB.out]
  generalize w.alloc (.cells #[.slice a0 l0 c0, .slice a1 l1 c1, .slice a2 l2 c2, .slice a3 l3 c3] 50) = wq at *
  refine (HCP.out _ (Kept.refl _ _)).mono ?_
  rintro e w2 ⟨rfl, hw2⟩
  rw [← HFE.out]
  clear b0 b1 b2 b3
  by_cases hf0 : fe = 0
  · subst hf0
    cases hky : isKeyB key with
    | false =>
      have HE5 := Lib.hid (show er = 5 from by rw [HER.out, hky]; rfl)
      go_wp2_with fail
      refine (isKey_any key _ (by omega)).mono ?_
      rintro e w' ⟨rfl, hh⟩
      subst hh
      rw [hky]
      go_wp2_with fail
      go_ret2
      exact ⟨fun _ => by rw [HE5.out]; rfl, fun h => absurd (HE5.out.symm.trans h) (by decide), HK1.out.trans hw2⟩
    | true =>
      have HE0 := Lib.hid (show er = 0 from by rw [HER.out, hky]; rfl)
      go_wp2_with fail
      refine (isKey_any key _ (by omega)).mono ?_
      rintro e w' ⟨rfl, hh⟩
      subst hh
      rw [hky]
      have hmm := @run_makeMap Tryz.prog
      have hm0 := MapO.made Tryz.prog 9 w2
      have hka : All w2 (w2.alloc (.map #[] 0)) := Kept.alloc _ _ _
      obtain ⟨mb, hmb⟩ : ∃ k, k = w2.heap.size := ⟨_, rfl⟩
      have HMB := Lib.hid hmb
      have hsz2 := hw2.size
      rw [← hmb] at hm0
      have hqa := hw2.trans hka
      have hqm : wq.heap.size ≤ mb := by omega
      clear hmb
      go_wp2_with fail
      simp only [← HMB.out]
      generalize w2.alloc (.map #[] 0) = w3 at *
      have Hend := Lib.hid (show ∀ wx, But mb w3 wx → All wq wx from fun wx hw => hqa.trans2 hw (fun i hi _ e => by omega))
      clear hka hw2 hsz2
      go_loopw [27] (fun i wr => ∃ k : Nat, k ≤ len ∧ i = .int .i64 k ∧ (∃ n, n ≤ k ∧ MapO Tryz.prog 9 wr mb n (fun who => (xs.take k).any (talkB key who))) ∧ But mb w3 wr) (fun i _ => len - (intOf i).toNat)
      case atStart => exact ⟨0, Nat.zero_le _, rfl, ⟨0, Nat.le_refl _, hm0.congr (fun s => by simp)⟩, Kept.refl _ _⟩
      case round =>
        clear hm0 hmm
        obtain ⟨k, hk, rfl, ⟨n, hnk, hmap⟩, hwr⟩ := hrel
        obtain ⟨wo, rfl⟩ : ∃ wo : World, wo = wr := ⟨_, rfl⟩
        by_cases hlt : k < len
        · obtain ⟨pb, off, x, ha, -, c0, c1, c2, c3, c4, c5, hsm, -, htk⟩ := (HS.out _ (Hend.out _ hwr)).atPost hlt
          subst ha
          have HX := Lib.hid htk
          have hko : All wo (wo.alloc (.cells #[.int .i64 x.no, .int .i64 x.tm, .string x.paper, .string x.person, .int .i64 x.ans, .string x.words] 58)) := Kept.alloc _ _ _
          have hblk := heap_at wo (.cells #[.int .i64 x.no, .int .i64 x.tm, .string x.paper, .string x.person, .int .i64 x.ans, .string x.words] 58) _ rfl
          have e2 := cell_at (i := 2) hblk rfl
          have e3 := cell_at (i := 3) hblk rfl
          have hwa : But mb w3 (wo.alloc (.cells #[.int .i64 x.no, .int .i64 x.tm, .string x.paper, .string x.person, .int .i64 x.ans, .string x.words] 58)) := hwr.then_alloc _
          have hmapa := hmap.keep hko trivial
          have hzp := hsm.2.1
          clear hmap hblk htk hko hsm
          by_cases hpk : x.paper = key
          · have f0 : (x.paper.toList == key.toList) = true := by simp [hpk]
            obtain ⟨w5, hput, hmap5, hb5⟩ := hmapa.put Tryz.underlying9 Tryz.underlying142 (by omega) x.person hzp true
            have hw5 : But mb w3 w5 := hwa.trans hb5
            have HPK := Lib.hid hpk
            clear hmapa hpk hb5 hwa
            go_wp2_with fail
            go_roundw
            case rel => exact ⟨k + 1, by omega, by go_num, ⟨n + 1, by omega, hmap5.congr (fun who => by rw [HX.out]; exact any_snoc _ _ _ _ HPK.out)⟩, hw5⟩
            case measure => simp [intOf]; omega
          · have f0 := bytes_ne3 hpk
            have HPK := Lib.hid hpk
            clear hpk
            go_wp2_with fail
            go_roundw
            case rel => exact ⟨k + 1, by omega, by go_num, ⟨n, by omega, hmapa.congr (fun who => by rw [HX.out]; exact any_snoc_other _ _ _ _ HPK.out)⟩, hwa⟩
            case measure => simp [intOf]; omega
        · have hd : decide ((k : Int) < (len : Int)) = false := by simp; omega
          have hmap9 := hmap.congr (g := fun who => xs.any (talkB key who)) (fun who => by rw [List.take_of_length_le (by have := Hlen.out; omega)])
          have hqo := Hend.out _ hwr
          have hszo := hqo.size
          obtain ⟨b0, b1, b2, b3⟩ := HBC.out _ hqo
          have HP2 := Lib.hid (fun (wx : World) (k : All wo wx) => HP.out wx (hqo.trans k))
          have HQO := Lib.hid hqo
          have HMAP := Lib.hid (fun (wx : World) (k : All wo wx) => hmap9.keep k trivial)
          clear hmap hmap9 hwr hqo
          go_upto_region 15 with fail
          go_loopw [12, 42] (fun v i wr => ∃ (k : Nat) (es : List ByteArray), k ≤ l0 ∧ i = .int .i64 k ∧ es = silentL xs key (ps.take k) ∧ es.length ≤ k ∧ Acc RStr 1 9 (fun _ => False) wo.heap.size wr v es ∧ All wo wr) (fun _ i _ => l0 - (intOf i).toNat)
          case atStart => exact ⟨0, [], Nat.zero_le _, rfl, by simp [silentL], Nat.le_refl _, Acc.nil _ _ _ _ _ _, Kept.refl _ _⟩
          case round =>
            obtain ⟨j, es, hj, rfl, hes, hel, hacc, hwr⟩ := hrel
            obtain ⟨w1, rfl⟩ : ∃ wo : World, wo = wr := ⟨_, rfl⟩
            have HES := Lib.hid hes
            clear hes
            obtain ⟨av, cv, rfl, hcv⟩ := hacc.form
            obtain ⟨m, hm⟩ : ∃ m, m = es.length := ⟨_, rfl⟩
            have HM := Lib.hid hm
            rw [← hm] at hacc hel hcv ⊢
            clear hm
            by_cases hlj : j < l0
            · obtain ⟨pb, off, x, ha, -, q0, q1, hx, -, htk⟩ := (HP2.out _ hwr).atPair hlj
              subst ha
              have HX := Lib.hid htk
              have hka : All w1 (w1.alloc (.cells #[.string x.paper, .string x.person] 101)) := Kept.alloc _ _ _
              have hblk := heap_at w1 (.cells #[.string x.paper, .string x.person] 101) _ rfl
              have hwa := hwr.trans hka
              have hac3 := hacc.keepAll RStr.ok hka
              have p0 := cell_at (i := 0) hblk rfl
              have p1 := cell_at (i := 1) hblk rfl
              have hsz3 : wo.heap.size ≤ (w1.alloc (.cells #[.string x.paper, .string x.person] 101)).heap.size := hwa.size
              have HZ := Lib.hid x.h2
              obtain ⟨tk, htk2⟩ : ∃ t, t = xs.any (talkB key x.person) := ⟨_, rfl⟩
              have HTK := Lib.hid htk2
              have l1 := (HMAP.out _ hwa).look Tryz.underlying9 Tryz.underlying142 (Tryz.zeroValue4 _) x.person x.h2
              rw [← htk2] at l1
              clear hblk hx hacc htk htk2 hka
              by_cases hpk : x.paper = key
              · have f0 : (x.paper.toList == key.toList) = true := by simp [hpk]
                have HPK := Lib.hid hpk
                clear hpk
                cases tk with
                | true =>
                  go_wp2_with fail
                  go_roundw
                  case rel => exact ⟨j + 1, es, by omega, by go_num, by rw [HX.out, silentL_snoc, if_pos HPK.out, if_pos HTK.out.symm, List.append_nil]; exact HES.out, by rw [← HM.out]; omega, hac3, hwa⟩
                  case measure => simp [intOf]; omega
                | false =>
                  go_wp2_with (at_builtin; refine wp_append1 RStr.ok _ rfl _ _ 26 rfl wo.heap.size 9 (.string ⟨#[]⟩) 1 16 Tryz.underlying26 (by kernel_rfl) rfl (by decide) (fun _ => False) _ es rfl (hac3.keepAll RStr.ok (Kept.alloc _ _ _)) ⟨_, 0, none⟩ 1 [.string x.person] rfl rfl (World.news_of_block (cs := #[.string x.person]) (heap_at (w1.alloc (.cells #[.string x.paper, .string x.person] 101)) _ _ (by simp))) (by simp [Value.oneCell']) x.person ⟨rfl, HZ.out⟩ (by have := HM.out; omega) (by decide) (by simp at *; omega) ?_)
                  intro p8 c8 w9 hac9 hgrow _
                  have hk9 : All wo w9 := by
                    refine hwa.trans2 ((Kept.refl (fun k => k < wo.heap.size) (w1.alloc (.cells #[.string x.paper, .string x.person] 101))).then_alloc _ |>.grown hgrow (fun k hk => Or.inr (by have := (hac3.lt k hk).1; omega))) (fun i hi _ => hi)
                  clear hgrow hac3
                  go_wp2_with fail
                  go_roundw
                  case rel => exact ⟨j + 1, es ++ [x.person], by omega, by go_num, by rw [HX.out, silentL_snoc, if_pos HPK.out, if_neg (fun h => by rw [← HTK.out] at h; cases h)]; exact congrArg (· ++ _) HES.out, by rw [List.length_append, ← HM.out]; simp; omega, hac9, hk9⟩
                  case measure => simp [intOf]; omega
              · have f0 := bytes_ne3 hpk
                have HPK := Lib.hid hpk
                clear hpk
                go_wp2_with fail
                go_roundw
                case rel => exact ⟨j + 1, es, by omega, by go_num, by rw [HX.out, silentL_snoc, if_neg HPK.out, List.append_nil]; exact HES.out, by rw [← HM.out]; omega, hac3, hwa⟩
                case measure => simp [intOf]; omega
            · have hd2 : decide ((j : Int) < (l0 : Int)) = false := by simp; omega
              have HAC := Lib.hid (hacc.base (show w.heap.size ≤ wo.heap.size by omega))
              have HALL := Lib.hid (HQO.out.trans hwr)
              clear hacc
              go_wp2_with fail
              go_ret2
              have hes : es = silentL xs key ps := by rw [HES.out, List.take_of_length_le (by have := Hlp.out; omega)]
              exact ⟨fun h => absurd HE0.out h, fun _ => ⟨_, rfl, by rw [← hes]; exact HAC.out⟩, HK1.out.trans HALL.out⟩
  · have hne : (fe != 0) = true := by simpa using hf0
    have HE := Lib.hid (show er = fe from by rw [HER.out, if_pos hf0])
    have HF0 := Lib.hid hf0
    clear hf0
    go_wp2_with fail
    go_ret2
    exact ⟨fun _ => by rw [HE.out]; rfl, fun h => absurd (HE.out.symm.trans h) HF0.out, HK1.out.trans hw2⟩
end Go.Proofs.YtllkemadaemjeaaGreatDoor

/- What sound posts are like; who is answered. No program in sight. -/
namespace Go.Proofs.YtllkemadaemjeaaGreatDoor
open Go.RowKit

theorem postsG_zero {b : Board4} : ∀ {l p : List Post6}, postsG b p l = 0 → ∀ (k : Nat) (x : Post6), l[k]? = some x → postF b (p ++ l.take k) x = 0
  | [], _, _, _, _, h => by simp at h
  | y :: l, p, h, k, x, hx => by
    rw [postsG_cons] at h
    by_cases h0 : postF b p y = 0
    · rw [if_neg (by simpa using h0)] at h
      cases k with
      | zero =>
        simp only [List.getElem?_cons_zero, Option.some.injEq] at hx
        subst hx
        simpa using h0
      | succ k =>
        have := postsG_zero h k x (by simpa using hx)
        simpa using this
    · rw [if_pos h0] at h
      exact absurd h h0
theorem postsF_each {b : Board4} {xs : List Post6} (h : postsF b xs = 0) {k : Nat} {x : Post6} (hx : xs[k]? = some x) : postF b (xs.take k) x = 0 := by
  simpa using postsG_zero (postsF_zero h).2.2 k x hx
theorem postF_num {b : Board4} {p : List Post6} {x : Post6} (h : postF b p x = 0) : x.no = (p.length : Int) + 1 := by
  unfold postF at h
  by_cases h1 : x.no ≠ (p.length : Int) + 1
  · rw [if_pos h1] at h; cases h
  · exact Decidable.not_not.1 h1
theorem postF_astray {b : Board4} {p : List Post6} {x : Post6} (h : postF b p x = 0) : astray p x = false := by
  unfold postF at h
  repeat' split at h
  all_goals first | cases h; done | simpa using ‹¬ astray p x = true›
/-- A sound post's answer: none, or an earlier one of its paper. -/
theorem sound_ans {b : Board4} {xs : List Post6} (h : postsF b xs = 0) {k : Nat} {x : Post6} (hx : xs[k]? = some x) (h0 : x.ans ≠ 0) : ∃ (q : Nat) (y : Post6), x.ans = (q : Int) + 1 ∧ q < k ∧ xs[q]? = some y ∧ y.paper = x.paper := by
  have ha := postF_astray (postsF_each h hx)
  have hk : k < xs.length := (List.getElem?_eq_some_iff.1 hx).1
  unfold astray at ha
  rw [if_neg h0] at ha
  have hl : (xs.take k).length = k := by simp; omega
  rw [hl] at ha
  split at ha
  · cases ha
  · rename_i h1
    have e : (x.ans.toNat - 1 : Nat) < k := by omega
    split at ha
    · cases ha
    · rename_i q hq
      rw [List.getElem?_take_of_lt e] at hq
      exact ⟨x.ans.toNat - 1, q, by omega, e, hq, by simpa using ha⟩
theorem sound_no {b : Board4} {xs : List Post6} (h : postsF b xs = 0) {k : Nat} {x : Post6} (hx : xs[k]? = some x) : x.no = (k : Int) + 1 := by
  have hk : k < xs.length := (List.getElem?_eq_some_iff.1 hx).1
  have := postF_num (postsF_each h hx)
  rw [this]; simp; omega

/-- Post y marks z as answered by another. -/
def ansM (xs : List Post6) (z : Int) (y : Post6) : Bool := decide (y.ans ≠ 0) && decide (y.ans = z) && (match xs[y.ans.toNat - 1]? with | some q => decide (q.person ≠ y.person) | none => false)
theorem ansM_same {b : Board4} {xs : List Post6} (h : postsF b xs = 0) {k : Nat} {x : Post6} (hx : xs[k]? = some x) (y : Post6) : ansM xs x.no y = ansB x y := by
  have hn := sound_no h hx
  unfold ansM ansB
  by_cases e : y.ans = x.no
  · have e0 : y.ans ≠ 0 := by omega
    have e1 : y.ans.toNat - 1 = k := by omega
    rw [e1, hx]
    have e2 : decide (x.person ≠ y.person) = decide (y.person ≠ x.person) := decide_eq_decide.2 ⟨fun h h2 => h h2.symm, fun h h2 => h h2.symm⟩
    simp only [e2]
    simp [e, hn]
    omega
  · simp [e]
end Go.Proofs.YtllkemadaemjeaaGreatDoor

/- Unanswered answers unansL. -/
namespace Go.Proofs.YtllkemadaemjeaaGreatDoor
open Go.RowKit

/-- Block mb is a map from numbers to bools: f. -/
def MapN (P : Program) (k : TypeId) (w : World) (b n : Nat) (f : Int → Bool) : Prop := ∃ m, MapI P k w b n m ∧ ∀ p, (m p).getD (.bool false) = .bool (f p)
section
variable {P : Program} {k e t : TypeId} {w w' : World} {b n : Nat} {f : Int → Bool}
theorem MapN.made (P : Program) (k : TypeId) (w : World) : MapN P k (w.alloc (.map #[] 0)) w.heap.size 0 (fun _ => false) := ⟨_, MapI.made P k w, fun _ => rfl⟩
theorem MapN.keep {F : Nat → Prop} (h : MapN P k w b n f) (hk : Kept F w w') (hF : F b) : MapN P k w' b n f := by obtain ⟨m, h1, h2⟩ := h; exact ⟨m, h1.keep hk hF, h2⟩
theorem MapN.congr {g : Int → Bool} (h : MapN P k w b n f) (hm : ∀ s, f s = g s) : MapN P k w b n g := by
  have : f = g := funext hm
  rw [← this]; exact h
theorem MapN.look (h : MapN P k w b n f) (hk : P.underlying k = some (.int .i64)) (ht : P.underlying t = some (.map k e)) (hz : (zeroValue e).run P w = .ok (.bool false) w) (s : Int) (hs : -1000000000000000 ≤ s ∧ s ≤ 1000000000000000) :
    (Instr.lookup t (.map (some b)) (.int .i64 s) false).run P w = .ok (.bool (f s)) w := by
  obtain ⟨m, h1, h2⟩ := h
  rw [h1.look hk ht hz s hs, h2 s]
theorem MapN.put (h : MapN P k w b n f) (hk : P.underlying k = some (.int .i64)) (ht : P.underlying t = some (.map k e)) (hn : n ≤ 1000000) (s : Int) (hs : -1000000000000000 ≤ s ∧ s ≤ 1000000000000000) (v : Bool) :
    ∃ w', (Instr.mapUpdate t (.map (some b)) (.int .i64 s) (.bool v)).run P w = .ok () w' ∧ MapN P k w' b (n + 1) (fun q => if q = s then v else f q) ∧ But b w w' := by
  obtain ⟨m, h1, h2⟩ := h
  obtain ⟨w', hr, h3, h4⟩ := h1.put hk ht hn s hs (.bool v)
  refine ⟨w', hr, ⟨_, h3, fun p => ?_⟩, h4⟩
  by_cases hp : p = s
  · subst hp; rw [putI_same]; simp
  · rw [putI_other hp, h2 p]; simp [hp]
end
theorem mark_snoc (xs ys : List Post6) (x : Post6) (z : Int) (h : ∀ z, ansM xs z x = decide (z = x.ans)) : (if z = x.ans then true else ys.any (ansM xs z)) = (ys ++ [x]).any (ansM xs z) := by
  by_cases hz : z = x.ans <;> simp [h, hz]
theorem mark_snoc_other (xs ys : List Post6) (x : Post6) (z : Int) (h : ∀ z, ansM xs z x = false) : ys.any (ansM xs z) = (ys ++ [x]).any (ansM xs z) := by simp [h]
theorem ansM_none {xs : List Post6} {x : Post6} (h : x.ans = 0) (z : Int) : ansM xs z x = false := by simp [ansM, h]
theorem ansM_own {xs : List Post6} {x y : Post6} {q : Nat} (h : x.ans = (q : Int) + 1) (hy : xs[q]? = some y) (hp : y.person = x.person) (z : Int) : ansM xs z x = false := by
  have e : x.ans.toNat - 1 = q := by omega
  unfold ansM
  rw [e, hy]
  simp [hp]
theorem ansM_other {xs : List Post6} {x y : Post6} {q : Nat} (h : x.ans = (q : Int) + 1) (hy : xs[q]? = some y) (hp : ¬ y.person = x.person) (z : Int) : ansM xs z x = decide (z = x.ans) := by
  have e : x.ans.toNat - 1 = q := by omega
  have e0 : x.ans ≠ 0 := by omega
  unfold ansM
  rw [e, hy]
  by_cases hz : z = x.ans
  · simp [hp, e0, hz]
  · have : ¬ x.ans = z := fun h => hz h.symm
    simp [hz, this]

set_option maxRecDepth 100000 in
set_option maxHeartbeats 12800000 in
theorem unanswered_any (a0 : Option Addr) (l0 c0 : Nat) (a1 : Option Addr) (l1 c1 : Nat) (a2 : Option Addr) (l2 c2 : Nat) (a3 : Option Addr) (l3 c3 : Nat) (b : Board4) (a : Option Addr) (len cap : Nat) (xs : List Post6) (w : World) (h : BoardIs w a0 l0 a1 l1 a2 l2 a3 l3 b) (hs : Sl RPost 6 (fun _ => True) w a len xs) (hl : len ≤ 1000000) (hcap : len ≤ cap) (hg : Tabs w) :
    Calls Tryz.prog 43 #[.agg #[.slice a0 l0 c0, .slice a1 l1 c1, .slice a2 l2 c2, .slice a3 l3 c3], .slice a len cap] w (RowPost RInt 1 3 (postsF b xs) (unansL xs xs) w) := by
  have Hlen := Lib.hid hs.len
  have hk1 : All w (w.alloc (.cells #[.slice a0 l0 c0, .slice a1 l1 c1, .slice a2 l2 c2, .slice a3 l3 c3] 50)) := Kept.alloc _ _ _
  have hblkB := heap_at w (.cells #[.slice a0 l0 c0, .slice a1 l1 c1, .slice a2 l2 c2, .slice a3 l3 c3] 50) _ rfl
  obtain ⟨bb, hbb⟩ : ∃ k, k = w.heap.size := ⟨_, rfl⟩
  have HBB := Lib.hid hbb
  rw [← hbb] at hblkB
  have hszq : w.heap.size ≤ (w.alloc (.cells #[.slice a0 l0 c0, .slice a1 l1 c1, .slice a2 l2 c2, .slice a3 l3 c3] 50)).heap.size := hk1.size
  have HCP := Lib.hid (fun (wx : World) (k : All (w.alloc (.cells #[.slice a0 l0 c0, .slice a1 l1 c1, .slice a2 l2 c2, .slice a3 l3 c3] 50)) wx) => checkPosts_any a0 l0 c0 a1 l1 c1 a2 l2 c2 a3 l3 c3 b a len cap xs wx (h.keep (hk1.trans k)) (hs.keep RPost.ok (hk1.trans k)) hl hcap (hg.keep (hk1.trans k)))
  have HS := Lib.hid (fun (wx : World) (k : All (w.alloc (.cells #[.slice a0 l0 c0, .slice a1 l1 c1, .slice a2 l2 c2, .slice a3 l3 c3] 50)) wx) => hs.keep RPost.ok (hk1.trans k))
  have b0 := cell_at (i := 0) hblkB rfl
  have b1 := cell_at (i := 1) hblkB rfl
  have b2 := cell_at (i := 2) hblkB rfl
  have b3 := cell_at (i := 3) hblkB rfl
  have HK1 := Lib.hid hk1
  obtain ⟨fe, hfe⟩ : ∃ x, x = postsF b xs := ⟨_, rfl⟩
  have HFE := Lib.hid hfe
  rw [← hfe]
  clear hs h hg hblkB hbb hk1 hfe
  go_enter Tryz.func43, Tryz.ntmps43
  go_wp2_with fail
  simp only [← HBB.out]
  generalize w.alloc (.cells #[.slice a0 l0 c0, .slice a1 l1 c1, .slice a2 l2 c2, .slice a3 l3 c3] 50) = wq at *
  refine (HCP.out _ (Kept.refl _ _)).mono ?_
  rintro e w2 ⟨rfl, hw2⟩
  rw [← HFE.out]
  clear b0 b1 b2 b3
  by_cases hf0 : fe = 0
  · subst hf0
    have hmm := @run_makeMap Tryz.prog
    have hm0 := MapN.made Tryz.prog 3 w2
    have hka : All w2 (w2.alloc (.map #[] 0)) := Kept.alloc _ _ _
    obtain ⟨mb, hmb⟩ : ∃ k, k = w2.heap.size := ⟨_, rfl⟩
    have HMB := Lib.hid hmb
    have hsz2 := hw2.size
    rw [← hmb] at hm0
    have hqa := hw2.trans hka
    have hqm : wq.heap.size ≤ mb := by omega
    clear hmb
    go_wp2_with fail
    simp only [← HMB.out]
    generalize w2.alloc (.map #[] 0) = w3 at *
    have Hend := Lib.hid (show ∀ wx, But mb w3 wx → All wq wx from fun wx hw => hqa.trans2 hw (fun i hi _ e => by omega))
    clear hka hw2 hsz2
    go_loopw [22] (fun i wr => ∃ k : Nat, k ≤ len ∧ i = .int .i64 k ∧ (∃ n, n ≤ k ∧ MapN Tryz.prog 3 wr mb n (fun z => (xs.take k).any (ansM xs z))) ∧ But mb w3 wr) (fun i _ => len - (intOf i).toNat)
    case atStart => exact ⟨0, Nat.zero_le _, rfl, ⟨0, Nat.le_refl _, hm0.congr (fun s => by simp)⟩, Kept.refl _ _⟩
    case round =>
      clear hm0 hmm
      obtain ⟨k, hk, rfl, ⟨n, hnk, hmap⟩, hwr⟩ := hrel
      obtain ⟨wo, rfl⟩ : ∃ wo : World, wo = wr := ⟨_, rfl⟩
      by_cases hlt : k < len
      · have hsk := HS.out _ (Hend.out _ hwr)
        obtain ⟨pb, off, x, ha, -, c0, c1, c2, c3, c4, c5, hsm, hx, htk⟩ := hsk.atPost hlt
        subst ha
        have HX := Lib.hid htk
        have hko : All wo (wo.alloc (.cells #[.int .i64 x.no, .int .i64 x.tm, .string x.paper, .string x.person, .int .i64 x.ans, .string x.words] 58)) := Kept.alloc _ _ _
        have hblk := heap_at wo (.cells #[.int .i64 x.no, .int .i64 x.tm, .string x.paper, .string x.person, .int .i64 x.ans, .string x.words] 58) _ rfl
        have hwa : But mb w3 (wo.alloc (.cells #[.int .i64 x.no, .int .i64 x.tm, .string x.paper, .string x.person, .int .i64 x.ans, .string x.words] 58)) := hwr.then_alloc _
        have hmapa := hmap.keep hko trivial
        have hska := hsk.keep RPost.ok hko
        obtain ⟨xb, hxb⟩ : ∃ q, q = wo.heap.size := ⟨_, rfl⟩
        have HXB := Lib.hid hxb
        rw [← hxb] at hblk
        have HBL := Lib.hid hblk
        clear hmap htk hko hsm hsk hblk hxb
        go_upto_region 8 with fail
        simp only [← HXB.out]
        generalize wo.alloc (.cells #[.int .i64 x.no, .int .i64 x.tm, .string x.paper, .string x.person, .int .i64 x.ans, .string x.words] 58) = wa at *
        have e3 := cell_at (i := 3) HBL.out rfl
        have e4 := cell_at (i := 4) HBL.out rfl
        clear c0 c1 c2 c3 c4 c5
        by_cases h0 : x.ans = 0
        · have f0 : (x.ans != 0) = false := by simp [h0]
          have HM := Lib.hid (fun z => ansM_none (xs := xs) h0 z)
          clear hx h0 hska
          go_quiet (fail)
          go_wp2_with fail
          go_roundw
          case rel => exact ⟨k + 1, by omega, by go_num, ⟨n, by omega, (hmapa.keep (Kept.drewN (fun _ => True) _ _) trivial).congr (fun z => by rw [HX.out]; exact mark_snoc_other _ _ _ _ HM.out)⟩, hwa.then_drewN _⟩
          case measure => simp [intOf]; omega
        · have f0 : (x.ans != 0) = true := by simpa using h0
          obtain ⟨q, y, hq, hqk, hy, -⟩ := sound_ans HFE.out.symm hx h0
          obtain ⟨pb', off', y', ha', -, d0, d1, d2, d3, d4, d5, -, hy', -⟩ := hska.atPost (k := q) (by omega)
          have hyy : y' = y := by rw [hy] at hy'; injection hy' with hy'; exact hy'.symm
          subst hyy
          simp only [Option.some.injEq, Addr.mk.injEq] at ha'
          obtain ⟨rfl, rfl, -⟩ := ha'
          have f1 : IntKind.i64.wrap (x.ans - 1) = (q : Int) := by rw [hq, show ((q : Int) + 1 - 1) = (q : Int) by omega]; exact IntWalk.i64_in _ (by omega)
          have f3 : (0 : Int) ≤ (q : Int) := by omega
          have f4 : (q : Int) < (len : Int) := by omega
          by_cases hp : y'.person = x.person
          · have f5 : (y'.person.toList == x.person.toList) = true := by simp [hp]
            have HM := Lib.hid (fun z => ansM_own (xs := xs) hq hy hp z)
            clear hx h0 hska hq hqk hy hy' hp d0 d1 d2 d4 d5
            go_quiet (fail)
            go_wp2_with fail
            go_roundw
            case rel => exact ⟨k + 1, by omega, by go_num, ⟨n, by omega, (hmapa.keep (Kept.drewN (fun _ => True) _ _) trivial).congr (fun z => by rw [HX.out]; exact mark_snoc_other _ _ _ _ HM.out)⟩, hwa.then_drewN _⟩
            case measure => simp [intOf]; omega
          · have f5 := bytes_ne3 hp
            have HM := Lib.hid (fun z => ansM_other (xs := xs) hq hy hp z)
            have hab : -1000000000000000 ≤ x.ans ∧ x.ans ≤ 1000000000000000 := by omega
            have HPUT := Lib.hid (fun (wz : World) (hz : All wa wz) => (hmapa.keep hz trivial).put Tryz.underlying3 Tryz.underlying143 (by omega) x.ans hab true)
            have HE4 := Lib.hid (fun (wz : World) (hz : All wa wz) => hz.cell e4 trivial)
            clear hx h0 hska hq hqk hy hy' hp d0 d1 d2 d4 d5 hmapa
            go_quiet (fail)
            rename_i nq
            obtain ⟨w5, hput, hmap5, hb5⟩ := HPUT.out (wa.drewN nq) (Kept.drewN _ _ _)
            have e4' := HE4.out (wa.drewN nq) (Kept.drewN _ _ _)
            have hw5 : But mb w3 w5 := (hwa.then_drewN nq).trans hb5
            clear hwa hb5 d3 e3 e4
            go_wp2_with fail
            go_roundw
            case rel => exact ⟨k + 1, by omega, by go_num, ⟨n + 1, by omega, hmap5.congr (fun z => by rw [HX.out]; exact mark_snoc _ _ _ _ HM.out)⟩, hw5⟩
            case measure => simp [intOf]; omega
      · have hd : decide ((k : Int) < (len : Int)) = false := by simp; omega
        have hmap9 := hmap.congr (g := fun z => xs.any (ansM xs z)) (fun z => by rw [List.take_of_length_le (by have := Hlen.out; omega)])
        have hqo := Hend.out _ hwr
        have hszo := hqo.size
        have HS2 := Lib.hid (fun (wx : World) (k : All wo wx) => HS.out wx (hqo.trans k))
        have HQO := Lib.hid hqo
        have HMAP := Lib.hid (fun (wx : World) (k : All wo wx) => hmap9.keep k trivial)
        clear hmap hmap9 hwr hqo
        go_upto_region 13 with fail
        go_loopw [10, 47] (fun v i wr => ∃ (k : Nat) (es : List Int), k ≤ len ∧ i = .int .i64 k ∧ es = unansL xs (xs.take k) ∧ es.length ≤ k ∧ Acc RInt 1 3 (fun _ => False) wo.heap.size wr v es ∧ All wo wr) (fun _ i _ => len - (intOf i).toNat)
        case atStart => exact ⟨0, [], Nat.zero_le _, rfl, by simp [unansL], Nat.le_refl _, Acc.nil _ _ _ _ _ _, Kept.refl _ _⟩
        case round =>
          obtain ⟨j, es, hj, rfl, hes, hel, hacc, hwr⟩ := hrel
          obtain ⟨w1, rfl⟩ : ∃ wo : World, wo = wr := ⟨_, rfl⟩
          have HES := Lib.hid hes
          clear hes
          obtain ⟨av, cv, rfl, hcv⟩ := hacc.form
          obtain ⟨m, hm⟩ : ∃ m, m = es.length := ⟨_, rfl⟩
          have HM := Lib.hid hm
          rw [← hm] at hacc hel hcv ⊢
          clear hm
          by_cases hlj : j < len
          · obtain ⟨pb, off, x, ha, -, c0, c1, c2, c3, c4, c5, -, hx, htk⟩ := (HS2.out _ hwr).atPost hlj
            subst ha
            have HX := Lib.hid htk
            have hka : All w1 (w1.alloc (.cells #[.int .i64 x.no, .int .i64 x.tm, .string x.paper, .string x.person, .int .i64 x.ans, .string x.words] 58)) := Kept.alloc _ _ _
            have hblk := heap_at w1 (.cells #[.int .i64 x.no, .int .i64 x.tm, .string x.paper, .string x.person, .int .i64 x.ans, .string x.words] 58) _ rfl
            have hwa := hwr.trans hka
            have hac3 := hacc.keepAll RInt.ok hka
            have p0 := cell_at (i := 0) hblk rfl
            have hsz3 : wo.heap.size ≤ (w1.alloc (.cells #[.int .i64 x.no, .int .i64 x.tm, .string x.paper, .string x.person, .int .i64 x.ans, .string x.words] 58)).heap.size := hwa.size
            have hno := sound_no HFE.out.symm hx
            have hnb : -1000000000000000 ≤ x.no ∧ x.no ≤ 1000000000000000 := by omega
            obtain ⟨tk, htk2⟩ : ∃ t, t = xs.any (ansB x) := ⟨_, rfl⟩
            have HTK := Lib.hid htk2
            have l1 := (HMAP.out _ hwa).look Tryz.underlying3 Tryz.underlying143 (Tryz.zeroValue4 _) x.no hnb
            have hsame : xs.any (ansM xs x.no) = tk := by rw [htk2]; exact congrArg xs.any (funext fun y => ansM_same HFE.out.symm hx y)
            rw [hsame] at l1
            clear hblk hx hacc htk htk2 hka hsame hno hnb
            cases tk with
            | true =>
              go_wp2_with fail
              go_roundw
              case rel => exact ⟨j + 1, es, by omega, by go_num, by rw [HX.out, unansL_snoc, if_pos HTK.out.symm, List.append_nil]; exact HES.out, by rw [← HM.out]; omega, hac3, hwa⟩
              case measure => simp [intOf]; omega
            | false =>
              go_wp2_with (at_builtin; refine wp_append1 RInt.ok _ rfl _ _ 22 rfl wo.heap.size 3 (.int .i64 0) 1 8 Tryz.underlying22 (by kernel_rfl) rfl (by decide) (fun _ => False) _ es rfl (hac3.keepAll RInt.ok (Kept.alloc _ _ _)) ⟨_, 0, none⟩ 1 [.int .i64 x.no] rfl rfl (World.news_of_block (cs := #[.int .i64 x.no]) (heap_at (w1.alloc (.cells #[.int .i64 x.no, .int .i64 x.tm, .string x.paper, .string x.person, .int .i64 x.ans, .string x.words] 58)) _ _ (by simp))) (by simp [Value.oneCell']) x.no rfl (by have := HM.out; omega) (by decide) (by simp at *; omega) ?_)
              intro p8 c8 w9 hac9 hgrow _
              have hk9 : All wo w9 := by
                refine hwa.trans2 ((Kept.refl (fun k => k < wo.heap.size) (w1.alloc (.cells #[.int .i64 x.no, .int .i64 x.tm, .string x.paper, .string x.person, .int .i64 x.ans, .string x.words] 58))).then_alloc _ |>.grown hgrow (fun k hk => Or.inr (by have := (hac3.lt k hk).1; omega))) (fun i hi _ => hi)
              clear hgrow hac3
              go_wp2_with fail
              go_roundw
              case rel => exact ⟨j + 1, es ++ [x.no], by omega, by go_num, by rw [HX.out, unansL_snoc, if_neg (fun h => by rw [← HTK.out] at h; cases h)]; exact congrArg (· ++ _) HES.out, by rw [List.length_append, ← HM.out]; simp; omega, hac9, hk9⟩
              case measure => simp [intOf]; omega
          · have hd2 : decide ((j : Int) < (len : Int)) = false := by simp; omega
            have HAC := Lib.hid (hacc.base (show w.heap.size ≤ wo.heap.size by omega))
            have HALL := Lib.hid (HQO.out.trans hwr)
            clear hacc
            go_wp2_with fail
            go_ret2
            have hes : es = unansL xs xs := by rw [HES.out, List.take_of_length_le (by have := Hlen.out; omega)]
            exact ⟨fun h => absurd rfl h, fun _ => ⟨_, rfl, by rw [← hes]; exact HAC.out⟩, HK1.out.trans HALL.out⟩
  · have hne : (fe != 0) = true := by simpa using hf0
    have HF0 := Lib.hid hf0
    clear hf0
    go_wp2_with fail
    go_ret2
    exact ⟨fun _ => rfl, fun h => absurd h HF0.out, HK1.out.trans hw2⟩
end Go.Proofs.YtllkemadaemjeaaGreatDoor
