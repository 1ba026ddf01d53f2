/- Slices that a call gathers, whose elements have memory of their own: element i reads through blocks that F i names. -/
import Derived.Test.YtbpbhpmkganefaaGreatDoorZd
import Derived.Test.YtbpbhpmkganefaaGreatDoorZi
import Derived.Test.YtbpbhpmkganefaaGreatDoorKc
import Derived.Shelf.Abstract
import Derived.Test.YtbpbhpmkganefaaGreatDoorKb
namespace Go.Proofs.YtbpbhpmkganefaaGreatDoor
open Go.RowKit

def AccI {α : Type} (R : Rel α) (sz : Nat) (T : TypeId) (F : Nat → Nat → Prop) (B : Nat) (w : World) (v : Value) (xs : List α) : Prop :=
  ∃ cells : List Value, w.ownsRow B T sz v xs.length cells ∧ ∀ (i : Nat) (h : i < xs.length), R (fun k => F i k ∧ v.ownBlock ≠ some k) w ((cells.drop (i * sz)).take sz) xs[i]

section
variable {α : Type} {R : Rel α} {sz : Nat} {T : TypeId} {F : Nat → Nat → Prop} {B : Nat} {w w' : World} {v : Value} {xs : List α}

theorem AccI.nil (R : Rel α) (sz : Nat) (T : TypeId) (F : Nat → Nat → Prop) (B : Nat) (w : World) : AccI R sz T F B w (.slice none 0 0) [] :=
  ⟨[], World.ownsRow_nil w B T sz, fun i h => absurd h (by simp)⟩
theorem AccI.lt (h : AccI R sz T F B w v xs) : ∀ k, v.ownBlock = some k → B ≤ k ∧ k < w.heap.size := by
  obtain ⟨cells, ho, _⟩ := h
  exact ho.lt
theorem AccI.keep (ok : R.Ok) {G : Nat → Prop} (h : AccI R sz T F B w v xs) (hk : Kept G w w') (hF : ∀ i k, i < xs.length → F i k → G k) (hg : ∀ k, v.ownBlock = some k → G k) : AccI R sz T F B w' v xs := by
  obtain ⟨cells, ho, he⟩ := h
  refine ⟨cells, ownsRow_kept ho hk hg, fun i hi => ?_⟩
  exact ok.keep (hk.mono fun k hk => hF i k hi hk.1) (he i hi)
theorem AccI.keepAll (ok : R.Ok) (h : AccI R sz T F B w v xs) (hk : All w w') : AccI R sz T F B w' v xs := h.keep ok hk (fun _ _ _ _ => trivial) (fun _ _ => trivial)
theorem AccI.form (h : AccI R sz T F B w v xs) : ∃ a cap, v = .slice a xs.length cap ∧ xs.length ≤ cap := by
  obtain ⟨cells, ho, he⟩ := h
  rcases ho.2 with ⟨hv, hn⟩ | ⟨g, cap, cur, hv, hg, _, hle, _⟩
  · exact ⟨none, 0, by rw [hv, hn], by omega⟩
  · exact ⟨_, cap, hv, hle⟩
/-- All elements through one set of blocks. -/
theorem AccI.acc (ok : R.Ok) {G : Nat → Prop} (h : AccI R sz T F B w v xs) (hF : ∀ i k, i < xs.length → F i k → G k) : Acc R sz T G B w v xs := by
  obtain ⟨cells, ho, he⟩ := h
  exact ⟨cells, ho, fun i hi => ok.mono (fun k hk => ⟨hF i k hi hk.1, hk.2⟩) (he i hi)⟩
theorem AccI.mono (ok : R.Ok) {G : Nat → Nat → Prop} (h : AccI R sz T F B w v xs) (hF : ∀ i k, i < xs.length → F i k → G i k) : AccI R sz T G B w v xs := by
  obtain ⟨cells, ho, he⟩ := h
  exact ⟨cells, ho, fun i hi => ok.mono (fun k hk => ⟨hF i k hi hk.1, hk.2⟩) (he i hi)⟩

/-- One element more. -/
theorem AccI.push (ok : R.Ok) {v' : Value} {cells vs : List Value} {y : α} (hsz : vs.length = sz)
    (ho : w.ownsRow B T sz v xs.length cells) (he : ∀ (i : Nat) (h : i < xs.length), R (fun k => F i k ∧ v.ownBlock ≠ some k) w ((cells.drop (i * sz)).take sz) xs[i])
    (hy : R (fun k => F xs.length k ∧ v.ownBlock ≠ some k) w vs y)
    (ho' : w'.ownsRow B T sz v' (xs.length + 1) (cells ++ vs)) (hg : w.grownBy w' v.ownBlock) (hat : v'.ownBlock = v.ownBlock ∨ v'.ownBlock = some w.heap.size) :
    AccI R sz T F B w' v' (xs ++ [y]) := by
  have turn : ∀ {i : Nat} {us : List Value} {x : α}, R (fun k => F i k ∧ v.ownBlock ≠ some k) w us x → R (fun k => F i k ∧ v'.ownBlock ≠ some k) w' us x := by
    intro i us x h
    have hk : Kept (fun k => F i k ∧ v.ownBlock ≠ some k) w w' :=
      ⟨hg.os, hg.tape, hg.output, hg.size, fun k hk hf => hg.block k hk (fun e => hf.2 e.symm)⟩
    have h1 := ok.live h
    have h2 : R (fun k => (F i k ∧ v.ownBlock ≠ some k) ∧ k < w.heap.size) w' us x := ok.keep (hk.mono fun k hk => hk.1) h1
    refine ok.mono (fun k hk => ⟨hk.1.1, ?_⟩) h2
    rcases hat with e | e
    · rw [e]; exact hk.1.2
    · rw [e]; intro e2; cases e2; exact absurd hk.2 (by omega)
  have hcl := ho.1
  refine ⟨cells ++ vs, by simpa using ho', fun i hi => ?_⟩
  simp only [List.length_append, List.length_cons, List.length_nil] at hi
  by_cases hlt : i < xs.length
  · have h2 : (i + 1) * sz ≤ xs.length * sz := Nat.mul_le_mul_right _ hlt
    rw [Nat.add_mul] at h2
    have e1 : ((cells ++ vs).drop (i * sz)).take sz = (cells.drop (i * sz)).take sz := by
      rw [List.drop_append_of_le_length (by omega), List.take_append_of_le_length (by simp; omega)]
    rw [e1, List.getElem_append_left hlt]
    exact turn (he i hlt)
  · have e0 : i = xs.length := by omega
    subst e0
    have e1 : ((cells ++ vs).drop (xs.length * sz)).take sz = vs := by
      rw [← hcl, List.drop_left, List.take_of_length_le (by omega)]
    rw [e1]
    simpa using turn hy
end

/-- append of one element that was written out just before. -/
theorem wp_append1I {α : Type} {R : Rel α} (ok : R.Ok) {P : Program} (w : World) {ops : Array Oper} {rest : List Oper} {o : Oper} {a : Act} {Q : Exit → Act → World → Prop} (hgd : o.guard = none) (s x : Operand) (t : TypeId)
    (ho : o.op = .call { callee := .builtin .append, args := #[s, x], argTypes := #[t, t] })
    (B : Nat) (e : TypeId) (z : Value) (size bytes : Nat) (ht : P.underlying t = some (.slice e)) (hi : (P.info? e).map (fun i => (i.zero, i.size, i.bytes)) = some (some z, size, bytes))
    (hzs : z.cells.size = size) (hsz : 0 < size) (F : Nat → Nat → Prop)
    (v : Value) (xs : List α) (hs : a.eval s = v) (hacc : AccI R size e F B w v xs)
    (ad : Addr) (c : Nat) (vs : List Value) (hx : a.eval x = .slice (some ad) 1 c) (hl : vs.length = size) (hnews : ∀ j u, vs[j]? = some u → w.cell? (ad.add j) = some u) (h1 : ∀ u ∈ vs, u.oneCell' = true)
    (y : α) (hy : R (fun k => F xs.length k ∧ v.ownBlock ≠ some k) w vs y)
    (hb1 : xs.length + 1 ≤ 1000000000) (hb2 : bytes ≤ 100000) (hbase : B ≤ w.heap.size)
    (h : ∀ p' c' w', AccI R size e F B w' (.slice p' (xs.length + 1) c') (xs ++ [y]) → w.grownBy w' v.ownBlock → ((Value.slice p' (xs.length + 1) c').ownBlock = v.ownBlock ∨ (Value.slice p' (xs.length + 1) c').ownBlock = some w.heap.size) → wpList P ops Q rest (a.put o.dst (.slice p' (xs.length + 1) c')) w') :
    wpList P ops Q (o :: rest) a w := by
  obtain ⟨i0, hi, hz0, hz1, hz2⟩ := info_parts hi
  obtain ⟨cells, hown, he⟩ := hacc
  refine wpList_append_own_at w hgd s x t ho B e i0 z size bytes ht hi hz0 hz1 hz2 hzs hsz v xs.length cells hs hown ad 1 c vs hx (by omega) hnews h1 (by unfold maxLen; omega) ?_ hbase ?_
  · calc (xs.length + 1) * bytes ≤ 1000000000 * 100000 := Nat.mul_le_mul hb1 hb2
      _ ≤ 140737488355328 := by decide
  · intro v' w' ho' hg _ hat
    have hp := AccI.push ok hl hown he hy ho' hg hat
    obtain ⟨p', c', rfl, _⟩ := hp.form
    simp only [List.length_append, List.length_cons, List.length_nil, Nat.zero_add] at *
    exact h p' c' w' hp hg hat

/-- Where element i of a gathered slice lies, and what its cells hold. -/
theorem AccI.at {α : Type} {R : Rel α} {sz : Nat} {T : TypeId} {F : Nat → Nat → Prop} {B : Nat} {w : World} {v : Value} {xs : List α} (h : AccI R sz T F B w v xs) {i : Nat} (hi : i < xs.length) :
    ∃ g cap vs, v = .slice (some ⟨g, 0, none⟩) xs.length cap ∧ B ≤ g ∧ vs.length = sz ∧ (∀ j (hj : j < vs.length), w.cell? ⟨g, i * sz + j, none⟩ = some vs[j]) ∧ (∀ j, w.frozen? ⟨g, j, none⟩ = false) ∧ R (fun k => F i k ∧ k ≠ g) w vs xs[i] := by
  obtain ⟨cells, ho, he⟩ := h
  rcases ho.2 with ⟨hv, hn⟩ | ⟨g, cap, cur, rfl, hb, hgg, hnc, hcm, hcs, htake⟩
  · omega
  · have h1 := ho.1
    have h2 : (i + 1) * sz ≤ xs.length * sz := Nat.mul_le_mul_right _ hi
    rw [Nat.add_mul] at h2
    have hl : ((cells.drop (i * sz)).take sz).length = sz := by simp only [List.length_take, List.length_drop]; omega
    refine ⟨g, cap, (cells.drop (i * sz)).take sz, rfl, hb, hl, fun j hj => ?_, fun j => ?_, ?_⟩
    · rw [hl] at hj
      have h3 : cells[i * sz + j]? = some ((cells.drop (i * sz)).take sz)[j] := by
        rw [List.getElem_take, List.getElem_drop]
        exact List.getElem?_eq_getElem _
      have h4 := ho.cells (g := g) rfl (i * sz + j) _ h3
      have hadd : (⟨g, 0, none⟩ : Addr).add (i * sz + j) = ⟨g, i * sz + j, none⟩ := by
        unfold Addr.add; split
        · rename_i h0; rw [h0]
        · simp
      rw [← hadd]; exact h4
    · simp only [World.frozen?, hgg]; simp
    · have := he i hi
      have e1 : (fun k => F i k ∧ (Value.slice (some ⟨g, 0, none⟩) xs.length cap).ownBlock ≠ some k) = (fun k => F i k ∧ k ≠ g) := by
        funext k; simp [Value.ownBlock, eq_comm]
      rw [e1] at this
      exact this

/-- A store into cell j of element i: the element is another one, the others stay. -/
theorem AccI.set {α : Type} {R : Rel α} (ok : R.Ok) {sz : Nat} {T : TypeId} {F : Nat → Nat → Prop} {B : Nat} {w : World} {xs : List α} {g n cap : Nat} (h : AccI R sz T F B w (.slice (some ⟨g, 0, none⟩) n cap) xs) {i j : Nat} (hi : i < xs.length) (hj : j < sz) (u : Value) (y : α)
    (hy : ∀ vs, R (fun k => F i k ∧ k ≠ g) w vs xs[i] → R (fun k => F i k ∧ k ≠ g) (w.setCell ⟨g, i * sz + j, none⟩ u) (vs.set j u) y) :
    AccI R sz T F B (w.setCell ⟨g, i * sz + j, none⟩ u) (.slice (some ⟨g, 0, none⟩) n cap) (xs.set i y) := by
  obtain ⟨cells, ho, he⟩ := h
  have hcl := ho.1
  have e1 : ∀ m, (fun k => F m k ∧ (Value.slice (some ⟨g, 0, none⟩) n cap).ownBlock ≠ some k) = (fun k => F m k ∧ k ≠ g) := by
    intro m; funext k; simp [Value.ownBlock, eq_comm]
  have h2 : (i + 1) * sz ≤ xs.length * sz := Nat.mul_le_mul_right _ hi
  rw [Nat.add_mul] at h2
  have hkept : ∀ m, Kept (fun k => F m k ∧ k ≠ g) w (w.setCell ⟨g, i * sz + j, none⟩ u) := fun m => Kept.setCell _ _ _ (by simp)
  refine ⟨cells.set (i * sz + j) u, ?_, fun m hm => ?_⟩
  · refine ⟨by simpa using hcl, ?_⟩
    rcases ho.2 with ⟨h0, hn⟩ | ⟨g', cap', cur, hv, hb, hgg, hnc, hcm, hcs, htake⟩
    · cases h0
    · cases hv
      have hh : (w.setCell ⟨g, i * sz + j, none⟩ u).heap[g]? = some (.cells (cur.setIfInBounds (i * sz + j) u) T (0, 0)) := by
        simp [World.setCell, Array.getElem?_modify, hgg]
      refine .inr ⟨g, cap, _, by simp, hb, hh, by simpa using hnc, hcm, by simpa using hcs, ?_⟩
      simp only [List.length_set] at *
      rw [Array.toList_setIfInBounds, List.take_set, htake]
  · simp only [List.length_set] at hm
    rw [e1]
    by_cases hmi : m = i
    · subst hmi
      have e2 : ((cells.set (m * sz + j) u).drop (m * sz)).take sz = ((cells.drop (m * sz)).take sz).set j u := by
        rw [List.drop_set, if_neg (by omega), List.take_set]
        congr 2
        omega
      rw [e2, List.getElem_set_self]
      have := he m hi
      rw [e1] at this
      exact hy _ this
    · have e2 : ((cells.set (i * sz + j) u).drop (m * sz)).take sz = (cells.drop (m * sz)).take sz := by
        apply List.ext_getElem?
        intro t
        by_cases ht : t < sz
        · simp only [List.getElem?_take, if_pos ht, List.getElem?_drop, List.getElem?_set]
          have hne : ¬ i * sz + j = m * sz + t := by
            rcases Nat.lt_or_gt_of_ne hmi with h3 | h3
            · have : (m + 1) * sz ≤ i * sz := Nat.mul_le_mul_right _ h3
              rw [Nat.add_mul] at this; omega
            · have : (i + 1) * sz ≤ m * sz := Nat.mul_le_mul_right _ h3
              rw [Nat.add_mul] at this; omega
          rw [if_neg hne]
        · simp [List.getElem?_take, ht]
      rw [e2, List.getElem_set_ne (Ne.symm hmi)]
      have := he m hm
      rw [e1] at this
      exact ok.keep (hkept m) this
end Go.Proofs.YtbpbhpmkganefaaGreatDoor

/- Finals: how they lie in memory; BookName and RightFinals make well-formed ones. -/
namespace Go.Proofs.YtbpbhpmkganefaaGreatDoor
open Go.RowKit

structure Cred where
  key : ByteArray
  name : ByteArray
structure Fin4 where
  paper : ByteArray
  title : ByteArray
  pages : Int
  credits : List Cred

def RCred : Rel Cred := fun _ _ vs x => vs = [.string x.key, .string x.name] ∧ x.key.size ≤ 1000000 ∧ x.name.size ≤ 1000000
theorem RCred.ok : RCred.Ok := ⟨fun _ h => h, fun _ h => h, fun h => h⟩
theorem Acc.credAny {T : TypeId} {F : Nat → Prop} (G : Nat → Prop) {B : Nat} {w : World} {v : Value} {ss : List Cred} (h : Acc RCred 2 T F B w v ss) : Acc RCred 2 T G B w v ss := h

/-- What is small in a final. -/
def FinSmall (m : Nat) (x : Fin4) : Prop := x.paper.size ≤ 1000000 ∧ x.title.size ≤ 1000000 ∧ -2000000000000 ≤ x.pages ∧ x.pages ≤ 2000000000000 ∧ x.credits.length ≤ m
abbrev FinSmallR (x : Fin4) : Prop := FinSmall 1000 x
/-- A final whose credits lie in a row of their own. -/
def RFinO (m : Nat) : Rel Fin4 := fun F w vs x => ∃ cv, vs = [.string x.paper, .string x.title, .int .i64 x.pages, cv] ∧ FinSmall m x ∧ Acc RCred 2 61 (fun _ => False) 0 w cv x.credits ∧ ∀ k, cv.ownBlock = some k → F k
theorem RFinO.ok (m : Nat) : (RFinO m).Ok := by
  refine ⟨?_, ?_, ?_⟩
  · rintro F w w' vs x hk ⟨cv, rfl, h1, h2, h3⟩
    exact ⟨cv, rfl, h1, h2.keep RCred.ok hk (fun _ h => h.elim) h3, h3⟩
  · rintro F G w vs x hk ⟨cv, rfl, h1, h2, h3⟩
    exact ⟨cv, rfl, h1, h2, fun k hk' => hk k (h3 k hk')⟩
  · rintro F w vs x ⟨cv, rfl, h1, h2, h3⟩
    exact ⟨cv, rfl, h1, h2, fun k hk' => ⟨h3 k hk', (h2.lt k hk').2⟩⟩
/-- A final, as it is read. -/
def RFin : Rel Fin4 := fun F w vs x => ∃ a cap, vs = [.string x.paper, .string x.title, .int .i64 x.pages, .slice a x.credits.length cap] ∧ FinSmallR x ∧ x.credits.length ≤ cap ∧ Sl RCred 2 F w a x.credits.length x.credits
theorem RFin.ok : RFin.Ok := by
  refine ⟨?_, ?_, ?_⟩
  · rintro F w w' vs x hk ⟨a, cap, rfl, h1, h2, h3⟩
    exact ⟨a, cap, rfl, h1, h2, h3.keep RCred.ok hk⟩
  · rintro F G w vs x hk ⟨a, cap, rfl, h1, h2, h3⟩
    exact ⟨a, cap, rfl, h1, h2, h3.mono RCred.ok hk⟩
  · rintro F w vs x ⟨a, cap, rfl, h1, h2, h3⟩
    exact ⟨a, cap, rfl, h1, h2, h3.live RCred.ok (by decide)⟩
theorem RFinO.read {m : Nat} (hm : m ≤ 1000) {F : Nat → Prop} {w : World} {vs : List Value} {x : Fin4} (h : RFinO m F w vs x) : RFin F w vs x := by
  obtain ⟨cv, rfl, h1, h2, h3⟩ := h
  obtain ⟨a, cap, rfl, hc⟩ := h2.form
  obtain ⟨a', cap', hv, hsl⟩ := h2.sl RCred.ok (by decide) (G := F) (fun _ h => h.elim) h3
  cases hv
  exact ⟨a, cap, rfl, ⟨h1.1, h1.2.1, h1.2.2.1, h1.2.2.2.1, by have := h1.2.2.2.2; omega⟩, hc, hsl⟩
theorem Sl.imp {α : Type} {R R' : Rel α} {sz : Nat} {F : Nat → Prop} {w : World} {a : Option Addr} {len : Nat} {xs : List α} (hR : ∀ vs x, R F w vs x → R' F w vs x) (h : Sl R sz F w a len xs) : Sl R' sz F w a len xs := by
  refine ⟨h.1, fun hl => ?_⟩
  obtain ⟨b, off, ha, hF, hc⟩ := h.2 hl
  refine ⟨b, off, ha, hF, fun i hi => ?_⟩
  obtain ⟨vs, h1, h2, h3⟩ := hc i hi
  exact ⟨vs, h1, h2, hR _ _ h3⟩

set_option maxRecDepth 100000 in
theorem bookName_any (σ : St) (n : Nat) (w : World) (hs : Str σ w n) (hn : n ≤ 4611686018427380000) :
    Calls Tryz.prog 52 #[.pointer (some ⟨σ.b, 0, none⟩)] w (StPost σ n 1 w (IsStr fun r => r.size ≤ 1000000)) := by
  have hlt := hs.lt
  go_enter Tryz.func52, Tryz.ntmps52
  go_wp2_with fail
  refine (some10_any σ n _ _ _ ["Ann Lee".toUTF8, "Bob van der Ray".toUTF8, "van Ray".toUTF8, "de la Cruz".toUTF8, "Jean-Luc de la Cruz".toUTF8, "Plato".toUTF8, "ann lee".toUTF8, ⟨#[67, 105, 100, 32, 79, 39, 78, 101, 105, 108]⟩, ⟨#[195, 137, 109, 105, 108, 101, 45, 195, 137, 108, 97, 110, 32, 90, 111, 108]⟩, "A. B- Moe".toUTF8, "la".toUTF8, "Dee da".toUTF8, "Ann-".toUTF8, "-Ann Lee".toUTF8] _ (hs.keep (Kept.alloc _ _ _)) (by omega) (Sl.lit_strs _ (heap_at _ _ _ rfl) rfl (by omega)) (by simp) (by simp)).mono ?_
  rintro e w2 ⟨v, m2, rfl, ⟨r, rfl, hr, hz⟩, hm3, hm4, hs2, hb2⟩
  go_wp2_with fail
  go_ret
  exact ⟨_, m2, rfl, ⟨_, rfl, hz⟩, by omega, by omega, hs2, (Kept.alloc _ _ _).trans hb2⟩
end Go.Proofs.YtbpbhpmkganefaaGreatDoor

/- IndexFunc and ContainsFunc over slices of credits. -/
namespace Go.Proofs.YtbpbhpmkganefaaGreatDoor
open Go.RowKit

/-- Function value g with what it has captured answers p of a credit. -/
def AnswersC (P : Program) (g : FuncId) (caps : Array Value) (w : World) (p : Cred → Bool) : Prop :=
  ∀ (y : Cred) (wx : World), All w wx → Calls P g (#[.agg #[.string y.key, .string y.name]] ++ caps) wx fun e w' => e = .returned (.bool (p y)) ∧ All wx w'

def findG {α : Type} (p : α → Bool) : Nat → List α → Int
  | _, [] => -1
  | k, s :: l => if p s = true then k else findG p (k + 1) l
theorem findG_neg {α : Type} {p : α → Bool} : ∀ {ss : List α} {k : Nat}, ss.any p = false → findG p k ss = -1
  | [], _, _ => rfl
  | s :: l, k, h => by
    simp only [List.any_cons, Bool.or_eq_false_iff] at h
    rw [findG, if_neg (by simp [h.1])]
    exact findG_neg h.2
theorem findG_nonneg {α : Type} {p : α → Bool} : ∀ {ss : List α} {k : Nat}, ss.any p = true → 0 ≤ findG p k ss
  | s :: l, k, h => by
    rw [findG]
    by_cases e : p s = true
    · rw [if_pos e]; omega
    · rw [if_neg e]
      simp only [List.any_cons, Bool.or_eq_true] at h
      exact findG_nonneg (h.resolve_left e)
theorem findG_append {α : Type} {p : α → Bool} : ∀ {a b : List α} {k : Nat}, a.any p = false → findG p k (a ++ b) = findG p (k + a.length) b
  | [], b, k, _ => by simp
  | s :: l, b, k, h => by
    simp only [List.any_cons, Bool.or_eq_false_iff] at h
    rw [List.cons_append, findG, if_neg (by simp [h.1]), findG_append h.2]
    simp only [List.length_cons]
    congr 1
    omega
theorem Sl.atCred {F : Nat → Prop} {w : World} {a : Option Addr} {len : Nat} {cs : List Cred} (h : Sl RCred 2 F w a len cs) {k : Nat} (hk : k < len) :
    ∃ b off y, a = some ⟨b, off, none⟩ ∧ F b ∧ w.cell? ⟨b, off + k * 2, none⟩ = some (.string y.key) ∧ w.cell? ⟨b, off + k * 2 + 1, none⟩ = some (.string y.name) ∧ y.key.size ≤ 1000000 ∧ y.name.size ≤ 1000000 ∧ cs[k]? = some y ∧ cs = cs.take k ++ y :: cs.drop (k + 1) ∧ cs.take (k + 1) = cs.take k ++ [y] := by
  obtain ⟨b, off, vs, y, ha, hF, h1, h2, ⟨rfl, hz1, hz2⟩, h4, h5, h6⟩ := h.at hk
  exact ⟨b, off, y, ha, hF, by simpa using h2 0 (by simp), by simpa using h2 1 (by simp), hz1, hz2, h4, h5, h6⟩

set_option maxHeartbeats 800000 in
theorem indexCred_any (g : FuncId) (caps : Array Value) (eg : ∀ args w, (callFunc g args).run Tryz.prog w = .ok (.enter g args) w) (p : Cred → Bool)
    (a : Option Addr) (len cap : Nat) (ss : List Cred) (w : World) (hs : Sl RCred 2 (fun _ => True) w a len ss) (hl : len ≤ 1000000) (hp : AnswersC Tryz.prog g caps w p) :
    Calls Tryz.prog 98 #[.slice a len cap, .func (.func g) #[] caps] w fun e w' => e = .returned (.int .i64 (findG p 0 ss)) ∧ All w w' := by
  have hlen := hs.len
  have HP := Lib.hid hp
  clear hp
  go_enter Tryz.func98, Tryz.ntmps98
  go_wp2
  go_loopw [5, 8] (fun _ i wr => ∃ k : Nat, k ≤ len ∧ i = .int .i64 k ∧ (ss.take k).any p = false ∧ All w wr) (fun _ i _ => len - (intOf i).toNat)
  case atStart => exact ⟨0, Nat.zero_le _, rfl, by simp, Kept.refl _ _⟩
  case round =>
    obtain ⟨k, hk, rfl, hnot, hall⟩ := hrel
    by_cases hlt : k < len
    · obtain ⟨b, off, y, ha, -, hc0, hc1, -, -, hy, hsplit, htake⟩ := (hs.keep RCred.ok hall).atCred hlt
      have hltake : (ss.take k).length = k := by simp; omega
      have Hsplit := Lib.hid hsplit
      have Htake := Lib.hid htake
      have Hl := Lib.hid hltake
      have Hnot := Lib.hid hnot
      clear hsplit htake hltake hlen hnot hy
      subst ha
      clear hs
      cases hpy : p y with
      | true =>
        have hfin : findG p 0 ss = k := by rw [Hsplit.out, findG_append Hnot.out, Hl.out, findG, if_pos hpy]; simp
        have Hfin := Lib.hid hfin
        clear hfin
        go_wp2_with fail
        refine (HP.out y _ hall).mono ?_
        rintro e w' ⟨rfl, hw⟩
        rw [hpy]
        go_wp2_with fail
        go_ret
        exact ⟨ret_int' Hfin.out.symm, hall.trans hw⟩
      | false =>
        go_wp2_with fail
        refine (HP.out y _ hall).mono ?_
        rintro e w' ⟨rfl, hw⟩
        rw [hpy]
        go_wp2_with fail
        go_roundw
        case rel => exact ⟨k + 1, by omega, by go_num, by rw [Htake.out, List.any_append, Hnot.out]; simp [hpy], hall.trans hw⟩
        case measure => simp [intOf]; omega
    · have hd : decide ((k : Int) < (len : Int)) = false := by simp; omega
      have hfin : findG p 0 ss = -1 := findG_neg (by rw [List.take_of_length_le (by omega)] at hnot; exact hnot)
      have Hfin := Lib.hid hfin
      clear hfin
      go_wp2
      go_ret
      exact ⟨ret_int' Hfin.out.symm, hall⟩
end Go.Proofs.YtbpbhpmkganefaaGreatDoor

/- credit, and ContainsFunc over credits with the reference's closure. -/
namespace Go.Proofs.YtbpbhpmkganefaaGreatDoor
open Go.RowKit

def hasKey (key : ByteArray) (c : Cred) : Bool := decide (c.key = key)
theorem hmfC : ∀ (fn : Fn) (first cap : Array Value) (w : World), (Instr.makeFunc fn first cap).run Tryz.prog w = .ok (.func fn first cap) w := fun _ _ _ _ => rfl

theorem credit1_any (kp : Nat) (key : ByteArray) (y : Cred) (w : World) (ck : w.cell? ⟨kp, 0, none⟩ = some (.string key)) :
    Calls Tryz.prog 132 #[.agg #[.string y.key, .string y.name], .pointer (some ⟨kp, 0, none⟩)] w fun e w' => e = .returned (.bool (hasKey key y)) ∧ All w w' := by
  have hkp := lt_of_cell ck
  dsimp only at hkp
  by_cases h : y.key = key
  · have hb : hasKey key y = true := by simp [hasKey, h]
    have e1 : (y.key.toList == key.toList) = true := by simp [h]
    rw [hb]
    clear hb h
    go_enter Tryz.func132, Tryz.ntmps132
    go_wp2_with fail
    go_ret
    exact ⟨by simp, Kept.alloc _ _ _⟩
  · have hb : hasKey key y = false := by simp [hasKey, h]
    have e1 : (y.key.toList == key.toList) = false := by simp; exact fun e => h (bytes_ext e)
    rw [hb]
    clear hb h
    go_enter Tryz.func132, Tryz.ntmps132
    go_wp2_with fail
    go_ret
    exact ⟨by simp, Kept.alloc _ _ _⟩

theorem credit_any (a : Option Addr) (len cap : Nat) (cs : List Cred) (key : ByteArray) (w : World) (hs : Sl RCred 2 (fun _ => True) w a len cs) (hl : len ≤ 1000000) :
    Calls Tryz.prog 107 #[.slice a len cap, .string key] w fun e w' => e = .returned (.int .i64 (findG (hasKey key) 0 cs)) ∧ All w w' := by
  have hk1 : All w (w.alloc (.cells #[.string key] 9)) := Kept.alloc _ _ _
  have ha := heap_at w (.cells #[.string key] 9) _ rfl
  have hans : AnswersC Tryz.prog 132 #[.pointer (some ⟨w.heap.size, 0, none⟩)] (w.alloc (.cells #[.string key] 9)) (hasKey key) := fun y wx hwx =>
    credit1_any _ key y wx (hwx.cell (cell_at ha rfl) trivial)
  have eg : ∀ args w, (callFunc 132 args).run Tryz.prog w = .ok (.enter 132 args) w := enters_of Tryz.func132 (by kernel_rfl) rfl
  have HF := Lib.hid (indexCred_any 132 _ eg (hasKey key) a len cap cs _ (hs.keep RCred.ok hk1) hl hans)
  have hmf' := hmfC
  clear hans eg ha hs
  go_enter Tryz.func107, Tryz.ntmps107
  go_wp2_with fail
  refine HF.out.mono ?_
  rintro e w2 ⟨rfl, hw2⟩
  go_wp2_with fail
  go_ret
  exact ⟨rfl, hk1.trans hw2⟩
end Go.Proofs.YtbpbhpmkganefaaGreatDoor

/- Order of strings; lists by places. No program in sight. -/
namespace Go.Proofs.YtbpbhpmkganefaaGreatDoor
open Go.RowKit

/-- Go's a <= b on strings. -/
def leB (a b : ByteArray) : Bool := Op.bytesLess a.toList b.toList || a.toList == b.toList
theorem drop_at {α : Type} {xs : List α} {k : Nat} {y : α} (h : xs[k]? = some y) : xs.drop k = y :: xs.drop (k + 1) := by
  obtain ⟨hk, rfl⟩ := List.getElem?_eq_some_iff.1 h
  exact List.drop_eq_getElem_cons hk
theorem last_take {α : Type} {xs : List α} {k : Nat} {y : α} (h : xs[k]? = some y) : (xs.take (k + 1)).getLast? = some y := by
  obtain ⟨hk, rfl⟩ := List.getElem?_eq_some_iff.1 h
  rw [List.take_succ_eq_append_getElem hk]; exact List.getLast?_concat
end Go.Proofs.YtbpbhpmkganefaaGreatDoor

/- Quota; printed. -/
namespace Go.Proofs.YtbpbhpmkganefaaGreatDoor
open Go.RowKit

theorem quota_no (votes seats : Int) (w : World) (h : votes < 0 ∨ 1000 < votes ∨ seats < 1 ∨ 3 < seats) :
    Calls Tryz.prog 51 #[.int .i64 votes, .int .i64 seats] w fun e w' => e = .returned (.tuple #[.int .i64 0, .int .i64 1]) ∧ w = w' := by
  by_cases h1 : votes < 0 ∨ 1000 < votes
  · have hd : decide (votes < 0 ∨ 1000 < votes) = true := by simpa using h1
    go_enter Tryz.func51, Tryz.ntmps51
    go_wp2_with fail
    refine (outside_any _ _ _ _).mono ?_
    rintro e w' ⟨rfl, rfl⟩
    rw [hd]
    go_wp2_with fail
    go_ret2
    exact ⟨rfl, rfl⟩
  · have hd : decide (votes < 0 ∨ 1000 < votes) = false := by simpa using h1
    have h2 : seats < 1 ∨ 3 < seats := by omega
    have hd2 : decide (seats < 1 ∨ 3 < seats) = true := by simpa using h2
    go_enter Tryz.func51, Tryz.ntmps51
    go_wp2_with fail
    refine (outside_any _ _ _ _).mono ?_
    rintro e w' ⟨rfl, rfl⟩
    rw [hd]
    go_wp2_with fail
    refine (outside_any _ _ _ _).mono ?_
    rintro e w' ⟨rfl, rfl⟩
    rw [hd2]
    go_wp2_with fail
    go_ret2
    exact ⟨rfl, rfl⟩
theorem quota_yes (votes seats : Int) (w : World) (h1 : 0 ≤ votes) (h2 : votes ≤ 1000) (h3 : 1 ≤ seats) (h4 : seats ≤ 3) :
    Calls Tryz.prog 51 #[.int .i64 votes, .int .i64 seats] w fun e w' => e = .returned (.tuple #[.int .i64 (votes / (seats + 1) + 1), .int .i64 0]) ∧ w = w' := by
  have hd : decide (votes < 0 ∨ 1000 < votes) = false := by simp; omega
  have hd2 : decide (seats < 1 ∨ 3 < seats) = false := by simp; omega
  have hq1 : 0 ≤ votes / (seats + 1) := Int.ediv_nonneg h1 (by omega)
  have hq2 : votes / (seats + 1) ≤ votes := Int.ediv_le_self _ h1
  go_enter Tryz.func51, Tryz.ntmps51
  go_wp2_with fail
  refine (outside_any _ _ _ _).mono ?_
  rintro e w' ⟨rfl, rfl⟩
  rw [hd]
  go_wp2_with fail
  refine (outside_any _ _ _ _).mono ?_
  rintro e w' ⟨rfl, rfl⟩
  rw [hd2]
  go_wp2_with fail
  go_ret2
  exact ⟨rfl, rfl⟩
theorem printed_any (w : World) : Calls Tryz.prog 15 #[] w fun e w' => e = .returned (.bool true) ∧ w = w' := by
  go_enter Tryz.func15, Tryz.ntmps15
  go_wp2_with fail
  refine (quota_yes 10 2 _ (by omega) (by omega) (by omega) (by omega)).mono ?_
  rintro e w' ⟨rfl, rfl⟩
  go_wp2
  go_ret
  exact ⟨rfl, rfl⟩
end Go.Proofs.YtbpbhpmkganefaaGreatDoor

/- What CheckFinals and FinalsFault compute. No program in sight. -/
namespace Go.Proofs.YtbpbhpmkganefaaGreatDoor
open Go.RowKit

/-- The error of credits, behind those before. -/
noncomputable def credsF (before : List Cred) : List Cred → Int
  | [] => 0
  | c :: l => if isKeyB c.key = false then 5 else if before.any (hasKey c.key) = true then 6 else if lineB c.name 100 = false then 3 else credsF (before ++ [c]) l
noncomputable def creditsF (l : List Cred) : Int := if l.length = 0 then 3 else if 20 < l.length then 2 else credsF [] l
/-- Is the key s not behind p? -/
def ordB (p : Option ByteArray) (s : ByteArray) : Bool := match p with | none => false | some q => leB s q
noncomputable def finF (p : Option ByteArray) (x : Fin4) : Int :=
  if isKeyB x.paper = false then 5 else if ordB p x.paper = true then 7 else if lineB x.title 200 = false then 3 else if x.pages < 1 ∨ 100 < x.pages then 1 else creditsF x.credits
noncomputable def finsF (p : Option ByteArray) : List Fin4 → Int
  | [] => 0
  | x :: l => if finF p x ≠ 0 then finF p x else finsF (some x.paper) l
noncomputable def finalsF (l : List Fin4) : Int := if 400 < l.length then 2 else finsF none l

theorem credsF_cons (before : List Cred) (c : Cred) (l : List Cred) : credsF before (c :: l) = if isKeyB c.key = false then 5 else if before.any (hasKey c.key) = true then 6 else if lineB c.name 100 = false then 3 else credsF (before ++ [c]) l := rfl
theorem finsF_cons (p : Option ByteArray) (x : Fin4) (l : List Fin4) : finsF p (x :: l) = if finF p x ≠ 0 then finF p x else finsF (some x.paper) l := rfl

/-- The walk over credits up to place j has found nothing. -/
def CredAt (cs : List Cred) (j : Nat) : Prop := credsF [] cs = credsF (cs.take j) (cs.drop j)
section
variable {cs : List Cred} {j : Nat} {y : Cred}
theorem CredAt.zero (cs : List Cred) : CredAt cs 0 := by simp [CredAt]
theorem CredAt.name (h : CredAt cs j) (hy : cs[j]? = some y) (hn : isKeyB y.key = false) : credsF [] cs = 5 := by
  rw [h, drop_at hy, credsF_cons, if_pos hn]
theorem CredAt.twice (h : CredAt cs j) (hy : cs[j]? = some y) (hn : isKeyB y.key = true) (ht : (cs.take j).any (hasKey y.key) = true) : credsF [] cs = 6 := by
  rw [h, drop_at hy, credsF_cons, if_neg (by simp [hn]), if_pos ht]
theorem CredAt.form (h : CredAt cs j) (hy : cs[j]? = some y) (hn : isKeyB y.key = true) (ht : (cs.take j).any (hasKey y.key) = false) (hl : lineB y.name 100 = false) : credsF [] cs = 3 := by
  rw [h, drop_at hy, credsF_cons, if_neg (by simp [hn]), if_neg (by simp [ht]), if_pos hl]
theorem CredAt.next (h : CredAt cs j) (hy : cs[j]? = some y) (hn : isKeyB y.key = true) (ht : (cs.take j).any (hasKey y.key) = false) (hl : lineB y.name 100 = true) : CredAt cs (j + 1) := by
  unfold CredAt at *
  obtain ⟨hk, rfl⟩ := List.getElem?_eq_some_iff.1 hy
  rw [h, drop_at hy, credsF_cons, if_neg (by simp [hn]), if_neg (by simp [ht]), if_neg (by simp [hl]), List.take_succ_eq_append_getElem hk]
theorem CredAt.ok (h : CredAt cs j) (hj : cs.length ≤ j) : credsF [] cs = 0 := by
  rw [h, List.drop_of_length_le hj]; rfl
end
theorem creditsF_none {cs : List Cred} (h : cs.length = 0) : creditsF cs = 3 := by rw [creditsF, if_pos h]
theorem creditsF_large {cs : List Cred} (h : 20 < cs.length) : creditsF cs = 2 := by rw [creditsF, if_neg (by omega), if_pos h]
theorem creditsF_some {cs : List Cred} (h : ¬ cs.length = 0) (h2 : ¬ 20 < cs.length) : creditsF cs = credsF [] cs := by rw [creditsF, if_neg h, if_neg h2]

/-- The paper of the last one. -/
def lastP (xs : List Fin4) : Option ByteArray := xs.getLast?.map (·.paper)
/-- The walk over finals up to place k has found nothing. -/
def FinAt (xs : List Fin4) (k : Nat) : Prop := finsF none xs = finsF (lastP (xs.take k)) (xs.drop k)
section
variable {xs : List Fin4} {k : Nat} {x : Fin4} {p : Option ByteArray}
theorem lastP_succ (hx : xs[k]? = some x) : lastP (xs.take (k + 1)) = some x.paper := by unfold lastP; rw [last_take hx]; rfl
theorem lastP_zero (xs : List Fin4) : lastP (xs.take 0) = none := by simp [lastP]
theorem FinAt.zero (xs : List Fin4) : FinAt xs 0 := by simp [FinAt, lastP]
theorem FinAt.bad {e : Int} (h : FinAt xs k) (hx : xs[k]? = some x) (hf : finF (lastP (xs.take k)) x = e) (he : e ≠ 0) : finsF none xs = e := by
  rw [h, drop_at hx, finsF_cons, hf, if_pos he]
theorem FinAt.next (h : FinAt xs k) (hx : xs[k]? = some x) (hf : finF (lastP (xs.take k)) x = 0) : FinAt xs (k + 1) := by
  unfold FinAt at *
  rw [h, drop_at hx, finsF_cons, hf, if_neg (by simp), lastP_succ hx]
theorem FinAt.ok (h : FinAt xs k) (hk : xs.length ≤ k) : finsF none xs = 0 := by
  rw [h, List.drop_of_length_le hk]; rfl
theorem finF_name (h1 : isKeyB x.paper = false) : finF p x = 5 := by rw [finF, if_pos h1]
theorem finF_order (h1 : isKeyB x.paper = true) (h2 : ordB p x.paper = true) : finF p x = 7 := by rw [finF, if_neg (by simp [h1]), if_pos h2]
theorem finF_form (h1 : isKeyB x.paper = true) (h2 : ordB p x.paper = false) (h3 : lineB x.title 200 = false) : finF p x = 3 := by rw [finF, if_neg (by simp [h1]), if_neg (by simp [h2]), if_pos h3]
theorem finF_arg (h1 : isKeyB x.paper = true) (h2 : ordB p x.paper = false) (h3 : lineB x.title 200 = true) (h4 : x.pages < 1 ∨ 100 < x.pages) : finF p x = 1 := by rw [finF, if_neg (by simp [h1]), if_neg (by simp [h2]), if_neg (by simp [h3]), if_pos h4]
theorem finF_cred (h1 : isKeyB x.paper = true) (h2 : ordB p x.paper = false) (h3 : lineB x.title 200 = true) (h4 : ¬ (x.pages < 1 ∨ 100 < x.pages)) : finF p x = creditsF x.credits := by rw [finF, if_neg (by simp [h1]), if_neg (by simp [h2]), if_neg (by simp [h3]), if_neg h4]
end
theorem finalsF_large {xs : List Fin4} (h : 400 < xs.length) : finalsF xs = 2 := by rw [finalsF, if_pos h]
theorem finalsF_some {xs : List Fin4} (h : ¬ 400 < xs.length) : finalsF xs = finsF none xs := by rw [finalsF, if_neg h]
/-- A key is behind the empty string: so the reference may begin with it. -/
theorem key_ne {s : ByteArray} (h : isKeyB s = true) : s.toList ≠ [] := by
  have h1 : isKey s := by
    apply Classical.byContradiction
    intro hn
    rw [isKeyB_false hn] at h
    cases h
  exact toList_ne (by have := h1.2.1; omega)
theorem ordB_last {p : Option ByteArray} {s : ByteArray} (h : isKeyB s = true) : ordB p s = leB s (p.getD ByteArray.empty) := by
  cases p with
  | some q => rfl
  | none =>
    have h0 := key_ne h
    have he : (ByteArray.empty).toList = [] := toList_nil rfl
    simp only [ordB, Option.getD_none, leB, he]
    cases hs : s.toList with
    | nil => exact absurd hs h0
    | cons a l => rfl

/-- Element k of a slice of finals. -/
theorem Sl.atFin {F : Nat → Prop} {w : World} {a : Option Addr} {len : Nat} {xs : List Fin4} (h : Sl RFin 4 F w a len xs) {k : Nat} (hk : k < len) :
    ∃ b off x ac cc, a = some ⟨b, off, none⟩ ∧ F b ∧ w.cell? ⟨b, off + k * 4, none⟩ = some (.string x.paper) ∧ w.cell? ⟨b, off + k * 4 + 1, none⟩ = some (.string x.title) ∧ w.cell? ⟨b, off + k * 4 + 2, none⟩ = some (.int .i64 x.pages) ∧ w.cell? ⟨b, off + k * 4 + 3, none⟩ = some (.slice ac x.credits.length cc) ∧
      FinSmallR x ∧ x.credits.length ≤ cc ∧ Sl RCred 2 F w ac x.credits.length x.credits ∧ xs[k]? = some x ∧ xs = xs.take k ++ x :: xs.drop (k + 1) ∧ xs.take (k + 1) = xs.take k ++ [x] := by
  obtain ⟨b, off, vs, x, ha, hF, h1, h2, ⟨ac, cc, rfl, hsm, hcc, hc⟩, h4, h5, h6⟩ := h.at hk
  exact ⟨b, off, x, ac, cc, ha, hF, by simpa using h2 0 (by simp), by simpa using h2 1 (by simp), by simpa using h2 2 (by simp), by simpa using h2 3 (by simp), hsm, hcc, hc, h4, h5, h6⟩
end Go.Proofs.YtbpbhpmkganefaaGreatDoor
