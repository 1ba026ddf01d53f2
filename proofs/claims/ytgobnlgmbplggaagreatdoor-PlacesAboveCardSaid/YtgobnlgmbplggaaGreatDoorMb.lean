/- Flat elements, sorted and made compact: what is left, in order, each once. No program in sight. -/
import Derived.Test.YtgobnlgmbplggaaGreatDoorYa
import Derived.Test.YtgobnlgmbplggaaGreatDoorSd
import Derived.Shelf.SlSortCmp.InsertionK
import Derived.Test.YtgobnlgmbplggaaGreatDoorP0
import Derived.Test.YtgobnlgmbplggaaGreatDoorWj
import Derived.Test.YtgobnlgmbplggaaGreatDoorZd
import Derived.Maps.OwnOps
import Derived.Maps.OwnSet
import Derived.Maps.Views
import Derived.Maps.RangeWalk
import Derived.StringKeys
namespace Go.Proofs.YtgobnlgmbplggaaGreatDoor
open Go.RowKit Go.Sort

section
variable {α : Type}
/-- What Compact leaves behind p. -/
def compG (eq : α → α → Bool) : α → List α → List α
  | _, [] => []
  | p, y :: l => if eq y p = true then compG eq y l else y :: compG eq y l
/-- What Compact leaves: an element that equals the one ahead of it is dropped. -/
def compL (eq : α → α → Bool) : List α → List α
  | [] => []
  | x :: l => x :: compG eq x l
theorem compG_snoc (eq : α → α → Bool) (y : α) : ∀ (l : List α) (p : α), compG eq p (l ++ [y]) = compG eq p l ++ (if eq y (l.getLastD p) = true then [] else [y])
  | [], p => by simp [compG]
  | z :: l, p => by
    have h := compG_snoc eq y l z
    have e : (z :: l).getLastD p = l.getLastD z := by cases l <;> rfl
    rw [List.cons_append, compG, compG, h, e]
    by_cases hz : eq z p = true
    · rw [if_pos hz, if_pos hz]
    · rw [if_neg hz, if_neg hz, List.cons_append]
theorem compL_next (eq : α → α → Bool) {xs : List α} {m : Nat} {x y : α} (hx : xs[m]? = some x) (hy : xs[m + 1]? = some y) : compL eq (xs.take (m + 2)) = if eq y x = true then compL eq (xs.take (m + 1)) else compL eq (xs.take (m + 1)) ++ [y] := by
  have e2 : xs.take (m + 2) = xs.take (m + 1) ++ [y] := by rw [List.take_add_one, hy]; rfl
  have e1 : xs.take (m + 1) = xs.take m ++ [x] := by rw [List.take_add_one, hx]; rfl
  rw [e2]
  cases hl : xs.take (m + 1) with
  | nil => rw [e1] at hl; simp at hl
  | cons z l =>
    have hlast : l.getLastD z = x := by
      have h1 : (z :: l).getLast? = some x := by rw [← hl, e1]; simp
      have h2 : (z :: l).getLast? = some (l.getLastD z) := by simp [List.getLast?_cons]
      rw [h2] at h1
      exact Option.some.inj h1
    rw [List.cons_append, compL, compL, compG_snoc, hlast]
    by_cases h : eq y x = true
    · rw [if_pos h, if_pos h, List.append_nil]
    · rw [if_neg h, if_neg h, List.cons_append]
/-- Compact at work: what stood before place j is squeezed to the front i of qs; from j - 1 on all is as it was. -/
structure Squash (eq : α → α → Bool) (xs qs : List α) (i j : Nat) : Prop where
  len : qs.length = xs.length
  pre : qs.take i = compL eq (xs.take (j + 1))
  il : (compL eq (xs.take (j + 1))).length = i
  rest : ∀ t, j ≤ t → qs[t]? = xs[t]?
  lt : i ≤ j
theorem Squash.start {eq : α → α → Bool} {xs : List α} {k : Nat} {x y : α} (hx : xs[k]? = some x) (hy : xs[k + 1]? = some y) (he : eq y x = true) (hn : compL eq (xs.take (k + 1)) = xs.take (k + 1)) : Squash eq xs xs (k + 1) (k + 1) := by
  have hk := (List.getElem?_eq_some_iff.1 hy).1
  have e := compL_next eq hx hy
  rw [if_pos he, hn] at e
  exact ⟨rfl, e.symm, by rw [e]; simp; omega, fun _ _ => rfl, Nat.le_refl _⟩
theorem Squash.drop {eq : α → α → Bool} {xs qs : List α} {i j : Nat} {x y : α} (h : Squash eq xs qs i j) (hx : xs[j]? = some x) (hy : xs[j + 1]? = some y) (he : eq y x = true) : Squash eq xs qs i (j + 1) := by
  have e := compL_next eq hx hy
  rw [if_pos he] at e
  exact ⟨h.len, by rw [e]; exact h.pre, by rw [e]; exact h.il, fun t ht => h.rest t (by omega), by have := h.lt; omega⟩
theorem Squash.keep {eq : α → α → Bool} {xs qs : List α} {i j : Nat} {x y : α} (h : Squash eq xs qs i j) (hx : xs[j]? = some x) (hy : xs[j + 1]? = some y) (he : eq y x = false) : Squash eq xs (qs.set i y) (i + 1) (j + 1) := by
  have hj := (List.getElem?_eq_some_iff.1 hy).1
  have hlt := h.lt
  have hl := h.len
  have e := compL_next eq hx hy
  rw [if_neg (by simp [he])] at e
  refine ⟨by simp [hl], ?_, by rw [e]; simp [h.il], fun t ht => ?_, by omega⟩
  · rw [e, ← h.pre, List.take_add_one, List.getElem?_set_self (by omega), List.take_set_of_le (Nat.le_refl _)]
    rfl
  · rw [List.getElem?_set_ne (by omega)]
    exact h.rest t (by omega)
theorem Squash.done {eq : α → α → Bool} {xs qs : List α} {i j : Nat} (h : Squash eq xs qs i j) (hj : xs.length ≤ j + 1) : qs.take i = compL eq xs := by
  rw [h.pre, List.take_of_length_le hj]

/-- The elements of xs in the order of cf, each of those that are alike once. -/
structure IsTidy (cf : α → α → Int) (xs out : List α) : Prop where
  rise : out.Pairwise fun x y => cf x y < 0
  sub : ∀ x ∈ out, x ∈ xs
  all : ∀ x ∈ xs, ∃ y ∈ out, cf x y = 0
/-- What is asked of an order. -/
structure IsCmp (cf : α → α → Int) : Prop where
  zero : ∀ x y, cf x y = 0 → cf y x = 0
  refl : ∀ x, cf x x = 0
  neg : ∀ x y, 0 < cf x y → cf y x < 0
  lt : ∀ x y z, cf x y < 0 → cf y z ≤ 0 → cf x z < 0
  lt2 : ∀ x y z, cf x y ≤ 0 → cf y z < 0 → cf x z < 0
  eq : ∀ x y z, cf x y = 0 → cf y z = 0 → cf x z = 0
end

section
variable {α : Type} [Inhabited α] {R : Rel α} {enc : α → List Value} {S : α → Prop} {sz : Nat} {T : TypeId} {F : Nat → Prop} {B : Nat} {w : World} {v : Value} {xs : List α}
end
end Go.Proofs.YtgobnlgmbplggaaGreatDoor

/- Orders: of strings, of numbers, one after another. No program in sight. -/
namespace Go.Proofs.YtgobnlgmbplggaaGreatDoor
open Go.RowKit Go.Sort

abbrev cmpB (a b : ByteArray) : Int := Lib.compareBytes a.data.toList b.data.toList
/-- The first order, then the second one. -/
def lexC {α : Type} (f g : α → α → Int) (x y : α) : Int := if f x y ≠ 0 then f x y else g x y
section
variable {α : Type} {f g : α → α → Int} {x y : α}
end
end Go.Proofs.YtgobnlgmbplggaaGreatDoor

/- What is wrong with a world. No program in sight. -/
namespace Go.Proofs.YtgobnlgmbplggaaGreatDoor
open Go.RowKit

def cmpN (a b : Int) : Int := if a < b then -1 else if b < a then 1 else 0
def plcAt (l : List Plc) (k : ByteArray) : Option Plc := l.find? fun p => decide (p.key = k)
def hasP (l : List Plc) (k : ByteArray) : Bool := (plcAt l k).isSome
def parL (l : List Plc) (k : ByteArray) : ByteArray := match plcAt l k with | some p => p.parent | none => ⟨#[]⟩
noncomputable def plcE (p : Option Plc) (x : Plc) : Int :=
  if isKeyB x.key = false then 5 else if notUp (p.map (·.key)) x.key = true then 7 else if x.parent.size ≠ 0 ∧ isKeyB x.parent = false then 5 else 0
def climb (l : List Plc) : Nat → ByteArray → ByteArray
  | 0, k => k
  | n + 1, k => climb l n (parL l k)
def cycB (l : List Plc) (k : ByteArray) : Bool := (List.range l.length).any fun j => decide (climb l (j + 1) k = k)
noncomputable def placesF (l : List Plc) : Int :=
  if 200 < l.length then 2 else if scanF plcE none l ≠ 0 then scanF plcE none l
  else if (l.any fun p => decide (p.parent.size ≠ 0) && !hasP l p.parent) = true then 8
  else if (l.any fun p => cycB l p.key) = true then 14 else 0
noncomputable def namB (s : ByteArray) : Bool := decide (s.size ≠ 0) && plainB s && decide (s.size ≤ 100)
noncomputable def namE (p : Option Nam) (x : Nam) : Int :=
  if namB x.name = false then 3 else if (match p with | none => decide (x.frm ≠ 0) | some q => decide (x.frm ≤ q.frm)) = true then 7 else if 4000 < x.frm then 1 else 0
noncomputable def namesF (l : List Nam) : Int := if l.length = 0 then 3 else if 10 < l.length then 2 else scanF namE none l
def cfH : Hom → Hom → Int := lexC (fun x y => cmpN x.frm y.frm) (lexC (fun x y => cmpB x.place y.place) (fun x y => cmpN x.til y.til))
def notOver {α : Type} (cf : α → α → Int) (p : Option α) (x : α) : Bool := match p with | none => false | some q => decide (0 ≤ cf q x)
def homE (ps : List Plc) (p : Option Hom) (x : Hom) : Int :=
  if hasP ps x.place = false then 8 else if x.frm < 0 ∨ x.til ≤ x.frm ∨ 4001 < x.til then 1 else if notOver cfH p x = true then 7 else 0
def homesF (ps : List Plc) (l : List Hom) : Int := if 20 < l.length then 2 else scanF (homE ps) none l
def mailC (b : UInt8) : Bool := decide (33 ≤ b.toNat) && decide (b.toNat ≤ 126) && !(decide (65 ≤ b.toNat) && decide (b.toNat ≤ 90))
def mailB (s : ByteArray) : Bool :=
  s.data.toList.all mailC && (decide (3 ≤ s.size) && decide (s.size ≤ 80)) && (decide (0 < Lib.indexByte s.data.toList 64) && decide (Lib.indexByte s.data.toList 64 < (s.size : Int) - 1)) && decide (Lib.countByte s.data.toList 64 = 1)
def maiE (p : Option ByteArray) (x : ByteArray) : Int := if mailB x = false then 3 else if notUp p x = true then 7 else 0
def mailsF (l : List ByteArray) : Int := if 10 < l.length then 2 else scanF maiE none l
noncomputable def advE (key : ByteArray) (p : Option ByteArray) (x : ByteArray) : Int := if isKeyB x = false then 5 else if notUp p x = true then 7 else if x = key then 14 else 0
noncomputable def advsF (key : ByteArray) (l : List ByteArray) : Int := if 10 < l.length then 2 else scanF (advE key) none l
noncomputable def persF (ps : List Plc) (x : Per) : Int :=
  if namesF x.names ≠ 0 then namesF x.names else if homesF ps x.homes ≠ 0 then homesF ps x.homes else if mailsF x.mails ≠ 0 then mailsF x.mails else advsF x.key x.advs
noncomputable def perE (ps : List Plc) (p : Option Per) (x : Per) : Int :=
  if isKeyB x.key = false then 5 else if notUp (p.map (·.key)) x.key = true then 7 else persF ps x
def perAt (l : List Per) (k : ByteArray) : Option Per := l.find? fun p => decide (p.key = k)
def hasK (l : List Per) (k : ByteArray) : Bool := (perAt l k).isSome
noncomputable def peopleF (ps : List Plc) (l : List Per) : Int :=
  if 300 < l.length then 2 else if scanF (perE ps) none l ≠ 0 then scanF (perE ps) none l else if (l.any fun p => p.advs.any fun a => !hasK l a) = true then 8 else 0
def autE (l : List Per) (p : Option ByteArray) (x : ByteArray) : Int := if hasK l x = false then 8 else if notUp p x = true then 7 else 0
def cfW : Wrk → Wrk → Int := lexC (fun x y => cmpN x.day y.day) (fun x y => cmpS x.authors y.authors)
def wrkE (l : List Per) (p : Option Wrk) (x : Wrk) : Int :=
  if ¬ (0 ≤ x.day ∧ x.day ≤ 4000) then 1 else if x.authors.length < 2 then 3 else if 20 < x.authors.length then 2
  else if scanF (autE l) none x.authors ≠ 0 then scanF (autE l) none x.authors else if notOver cfW p x = true then 7 else 0
def worksF (l : List Per) (ws : List Wrk) : Int := if 1000 < ws.length then 2 else scanF (wrkE l) none ws
def cfB : Bnd → Bnd → Int := lexC (fun x y => cmpB x.a y.a) (fun x y => cmpB x.b y.b)
def bndE (l : List Per) (p : Option Bnd) (x : Bnd) : Int :=
  if hasK l x.a = false ∨ hasK l x.b = false then 8 else if leB x.b x.a = true ∨ notOver cfB p x = true then 7 else 0
def bondsF (l : List Per) (bs : List Bnd) : Int := if 1000 < bs.length then 2 else scanF (bndE l) none bs
noncomputable def worldF (s : Wld) : Int :=
  if placesF s.places ≠ 0 then placesF s.places else if peopleF s.places s.people ≠ 0 then peopleF s.places s.people
  else if worksF s.people s.works ≠ 0 then worksF s.people s.works else bondsF s.people s.bonds
def termsF (h w : Int) : Int := if (0 ≤ h ∧ h ≤ 4000) ∧ (0 ≤ w ∧ w ≤ 4000) then 0 else 1

/-- No key comes twice. -/
def NoTwice (ks : List ByteArray) : Prop := ks.Pairwise fun a b => a ≠ b
theorem bl_ne {a b : ByteArray} (h : Op.bytesLess a.toList b.toList = true) : a ≠ b := fun e => by
  rw [e, bl_irrefl] at h; exact nomatch h
theorem scan_keys {α : Type} {key : α → ByteArray} {f : Option α → α → Int} (hf : ∀ p x, f (some p) x = 0 → leB (key x) (key p) = false) : ∀ (l : List α) (p : Option α), scanF f p l = 0 → NoTwice (l.map key)
  | [], _, _ => List.Pairwise.nil
  | x :: l, p, h => by
    rw [scanF] at h
    split at h
    · rename_i h1; exact absurd h h1
    · refine List.Pairwise.cons (fun y hy => ?_) (scan_keys hf l (some x) h)
      obtain ⟨z, hz, rfl⟩ := List.mem_map.1 hy
      exact bl_ne (scan_rise hf l x h z hz)
theorem plcE_up {p x : Plc} (h : plcE (some p) x = 0) : leB x.key p.key = false := by
  unfold plcE at h
  split at h; · exact absurd h (by decide)
  split at h; · exact absurd h (by decide)
  rename_i h1
  simpa [notUp] using h1
theorem plc_keys {l : List Plc} (h : scanF plcE none l = 0) : NoTwice (l.map (·.key)) := scan_keys (fun _ _ h => plcE_up h) l none h
end Go.Proofs.YtgobnlgmbplggaaGreatDoor

/- Places above places. No program in sight. -/
namespace Go.Proofs.YtgobnlgmbplggaaGreatDoor
open Go.RowKit

/-- Keys of places that are checked. -/
structure PlcOk (l : List Plc) : Prop where
  once : NoTwice (l.map (·.key))
  some_ : ∀ p ∈ l, p.key.size ≠ 0
section
variable {l : List Plc} {k x : ByteArray} {n m i j : Nat}
theorem climb_add (l : List Plc) : ∀ (a b : Nat) (k : ByteArray), climb l (a + b) k = climb l b (climb l a k)
  | 0, b, k => by rw [Nat.zero_add]; rfl
  | a + 1, b, k => by rw [show a + 1 + b = (a + b) + 1 by omega, climb, climb_add l a b (parL l k)]; rfl
theorem climb_succ (l : List Plc) (n : Nat) (k : ByteArray) : climb l (n + 1) k = parL l (climb l n k) := by rw [climb_add l n 1 k]; rfl
theorem parL_in (h : (parL l k).size ≠ 0) : k ∈ l.map (·.key) := by
  unfold parL at h
  split at h
  · rename_i p hp
    have h1 := List.find?_some hp
    exact List.mem_map.2 ⟨p, List.mem_of_find?_eq_some hp, by simpa using h1⟩
  · exact absurd rfl h
theorem parL_nil (hl : PlcOk l) (hk : k.size = 0) : (parL l k).size = 0 := by
  refine Classical.byContradiction fun h => ?_
  obtain ⟨p, hp, he⟩ := List.mem_map.1 (parL_in h)
  exact hl.some_ p hp (by rw [show p.key = k from he]; exact hk)
theorem climb_nil (hl : PlcOk l) (h : (climb l i k).size = 0) : ∀ d, (climb l (i + d) k).size = 0
  | 0 => h
  | d + 1 => by rw [show i + (d + 1) = (i + d) + 1 by omega, climb_succ]; exact parL_nil hl (climb_nil hl h d)
theorem climb_keys (hl : PlcOk l) (h : (climb l m k).size ≠ 0) (hi : i < m) : climb l i k ∈ l.map (·.key) := by
  refine parL_in (l := l) fun e => h ?_
  rw [← climb_succ] at e
  have := climb_nil hl e (m - (i + 1))
  rwa [show i + 1 + (m - (i + 1)) = m by omega] at this
theorem range_nodup {f : Nat → ByteArray} {m : Nat} (h : ∀ i j, i < j → j < m → f i ≠ f j) : ((List.range m).map f).Nodup := by
  rw [List.Nodup, List.pairwise_map]
  exact List.Pairwise.imp_of_mem (fun {a b} ha hb hab => h a b hab (List.mem_range.1 hb)) List.pairwise_lt_range
theorem few (h : ∀ i j, i < j → j < m → climb l i k ≠ climb l j k) (hm : ∀ i, i < m → climb l i k ∈ l.map (·.key)) : m ≤ l.length := by
  have h1 := (range_nodup (f := fun i => climb l i k) h).length_le_of_subset (l₂ := l.map (·.key)) (fun z hz => by
    obtain ⟨i, hi, rfl⟩ := List.mem_map.1 hz
    exact hm i (List.mem_range.1 hi))
  simpa using h1
/-- A way back comes within as many steps as there are places. -/
theorem back_soon (hl : PlcOk l) (hk : k.size ≠ 0) : ∀ m, 0 < m → climb l m k = k → ∃ j, j < l.length ∧ climb l (j + 1) k = k := by
  intro m
  induction m using Nat.strongRecOn with
  | _ m ih =>
    intro h0 hm
    by_cases hd : ∃ i j, i < j ∧ j < m ∧ climb l i k = climb l j k
    · obtain ⟨i, j, hij, hj, e⟩ := hd
      refine ih (m - j + i) (by omega) (by omega) ?_
      rw [Nat.add_comm, climb_add, e, ← climb_add, show j + (m - j) = m by omega, hm]
    · have h1 : m ≤ l.length := few (fun i j hij hj e => hd ⟨i, j, hij, hj, e⟩) (fun i hi => climb_keys hl (by rw [hm]; exact hk) hi)
      exact ⟨m - 1, by omega, by rw [show m - 1 + 1 = m by omega]; exact hm⟩
theorem cycB_iff : cycB l k = true ↔ ∃ j, j < l.length ∧ climb l (j + 1) k = k := by
  unfold cycB
  rw [List.any_eq_true]
  constructor
  · rintro ⟨j, hj, h⟩
    exact ⟨j, List.mem_range.1 hj, by simpa using h⟩
  · rintro ⟨j, hj, h⟩
    exact ⟨j, List.mem_range.2 hj, by simpa using h⟩
/-- What is above a place, in so many steps. -/
def aboveL (l : List Plc) : Nat → ByteArray → List ByteArray
  | 0, _ => []
  | f + 1, k => if (parL l k).size = 0 then [] else parL l k :: aboveL l f (parL l k)
theorem aboveL_mem (hl : PlcOk l) (hx : x.size ≠ 0) : ∀ (f : Nat) (k : ByteArray), x ∈ aboveL l f k ↔ ∃ j, j < f ∧ climb l (j + 1) k = x
  | 0, k => by simp [aboveL]
  | f + 1, k => by
    rw [aboveL]
    split
    · rename_i h0
      constructor
      · intro h; exact nomatch h
      · rintro ⟨j, -, e⟩
        have h1 := climb_nil (i := 1) hl h0 j
        rw [show 1 + j = j + 1 by omega, e] at h1
        exact absurd h1 hx
    · rw [List.mem_cons, aboveL_mem hl hx f (parL l k)]
      constructor
      · rintro (rfl | ⟨j, hj, e⟩)
        · exact ⟨0, by omega, rfl⟩
        · exact ⟨j + 1, by omega, e⟩
      · rintro ⟨j, hj, e⟩
        rcases j with _ | j
        · exact Or.inl e.symm
        · exact Or.inr ⟨j, by omega, e⟩
theorem above_cyc (hl : PlcOk l) (hk : k.size ≠ 0) : memB k (aboveL l (l.length + 1) k) = cycB l k := by
  have h : memB k (aboveL l (l.length + 1) k) = true ↔ cycB l k = true := by
    rw [memB_iff, aboveL_mem hl hk, cycB_iff]
    constructor
    · rintro ⟨j, -, e⟩; exact back_soon hl hk (j + 1) (by omega) e
    · rintro ⟨j, hj, e⟩; exact ⟨j, by omega, e⟩
  cases h1 : cycB l k with
  | true => exact h.2 h1
  | false =>
    cases h2 : memB k (aboveL l (l.length + 1) k) with
    | false => rfl
    | true => rw [h.1 h2] at h1; exact nomatch h1
/-- Without circles each way up ends. -/
theorem ends (hl : PlcOk l) (hc : ∀ p ∈ l, cycB l p.key = false) (k : ByteArray) : ∃ j, j ≤ l.length ∧ (climb l (j + 1) k).size = 0 := by
  refine Classical.byContradiction fun hn => ?_
  have h0 : ∀ j, j ≤ l.length → (climb l (j + 1) k).size ≠ 0 := fun j hj e => hn ⟨j, hj, e⟩
  have hm : ∀ i, i < l.length + 1 → climb l i k ∈ l.map (·.key) := fun i hi => climb_keys hl (h0 l.length (Nat.le_refl _)) (by omega)
  by_cases hd : ∃ i j, i < j ∧ j < l.length + 1 ∧ climb l i k = climb l j k
  · obtain ⟨i, j, hij, hj, e⟩ := hd
    obtain ⟨p, hp, he⟩ := List.mem_map.1 (hm i (by omega))
    have h1 := hc p hp
    rw [show p.key = climb l i k from he] at h1
    have h2 : cycB l (climb l i k) = true := cycB_iff.2 ⟨j - i - 1, by omega, by rw [show j - i - 1 + 1 = j - i by omega, ← climb_add, show i + (j - i) = j by omega, ← e]⟩
    rw [h1] at h2; exact nomatch h2
  · have := few (m := l.length + 1) (fun i j hij hj e => hd ⟨i, j, hij, hj, e⟩) hm
    omega
/-- All that is above a place. -/
def upL (l : List Plc) (k : ByteArray) : List ByteArray := aboveL l (l.length + 1) k
def inL (l : List Plc) (a b : ByteArray) : Bool := decide (a = b) || memB b (upL l a)
theorem aboveL_snoc : ∀ (f : Nat) (k : ByteArray), (∀ j, j < f + 1 → (climb l (j + 1) k).size ≠ 0) → aboveL l (f + 1) k = aboveL l f k ++ [climb l (f + 1) k]
  | 0, k, h => by
    have h0 : ¬ (parL l k).size = 0 := h 0 (by omega)
    simp only [aboveL, if_neg h0]
    rfl
  | f + 1, k, h => by
    have h0 : ¬ (parL l k).size = 0 := h 0 (by omega)
    have e1 : aboveL l (f + 1 + 1) k = parL l k :: aboveL l (f + 1) (parL l k) := by rw [aboveL, if_neg h0]
    have e2 : aboveL l (f + 1) k = parL l k :: aboveL l f (parL l k) := by rw [aboveL, if_neg h0]
    rw [e1, e2, aboveL_snoc f (parL l k) (fun j hj => h (j + 1) (by omega))]; rfl
theorem aboveL_len : ∀ (f : Nat) (k : ByteArray), (aboveL l f k).length ≤ f
  | 0, _ => by simp [aboveL]
  | f + 1, k => by
    rw [aboveL]
    split
    · simp
    · have := aboveL_len f (parL l k)
      simp; omega
end
end Go.Proofs.YtgobnlgmbplggaaGreatDoor

/- Maps of the call's own whose keys are strings, with whatever values; ranging over them. No program in sight. -/
namespace Go.Proofs.YtgobnlgmbplggaaGreatDoor
open Go.RowKit
open Go.Maps (Keyed IsMap)

/-- How an element reads: as itself. -/
def heldR (v : Value) : Option (DataW Value × List MemPlace) := some (.held v, [])
theorem heldR_mk (v : Value) : heldR v = some (.held v, []) := rfl

/-- Block b is a map of at most n entries; m says what lies at a string. -/
def MapS (P : Program) (k : TypeId) (w : World) (b n : Nat) (m : ByteArray → Option Value) : Prop :=
  ∃ D : DataW Value, w.ownsMap P k heldR b n D ∧ ∀ s : ByteArray, Maps.has D (.string s.data.toList) = (m s).isSome ∧ ∀ z, D.atKey (.string s.data.toList) (.held z) = .held ((m s).getD z)
/-- m with v at s. -/
def putS (m : ByteArray → Option Value) (s : ByteArray) (v : Value) : ByteArray → Option Value := fun x => if x = s then some v else m x
theorem putS_same (m : ByteArray → Option Value) (s : ByteArray) (v : Value) : putS m s v s = some v := by simp [putS]
theorem putS_other {m : ByteArray → Option Value} {s x : ByteArray} {v : Value} (h : x ≠ s) : putS m s v x = m x := by simp [putS, h]

section
variable {P : Program} {k e t : TypeId} {w w' : World} {b n : Nat} {m : ByteArray → Option Value}

theorem MapS.made (P : Program) (k : TypeId) (w : World) : MapS P k (w.alloc (.map #[] 0)) w.heap.size 0 (fun _ => none) :=
  ⟨.map [], World.ownsMap_made _ _ _ _, fun _ => ⟨rfl, fun _ => rfl⟩⟩
theorem MapS.lt (h : MapS P k w b n m) : b < w.heap.size := by
  obtain ⟨D, h1, _⟩ := h
  exact h1.lt
theorem MapS.blk (h : MapS P k w b n m) : ∃ es clock, w.heap[b]? = some (.map es clock) := by
  obtain ⟨D, ⟨es, clock, hb, _⟩, _⟩ := h
  exact ⟨es, clock, hb⟩
theorem MapS.keep {F : Nat → Prop} (h : MapS P k w b n m) (hk : Kept F w w') (hF : F b) : MapS P k w' b n m := by
  have hl := h.lt
  obtain ⟨D, ⟨es, clock, hb, F', hs, hD⟩, h3⟩ := h
  exact ⟨D, ⟨es, clock, (hk.block b hl hF).trans hb, F', hs, hD⟩, h3⟩
theorem MapS.up {n' : Nat} (h : MapS P k w b n m) (hn : n ≤ n') : MapS P k w b n' m := by
  obtain ⟨D, h1, h3⟩ := h
  exact ⟨D, h1.mono hn, h3⟩
theorem MapS.congr {m' : ByteArray → Option Value} (h : MapS P k w b n m) (hm : ∀ s, m s = m' s) : MapS P k w b n m' := by
  have : m = m' := funext hm
  rw [← this]; exact h
theorem MapS.look (h : MapS P k w b n m) (hk : P.underlying k = some .string) (ht : P.underlying t = some (.map k e)) {z : Value} (hz : (zeroValue e).run P w = .ok z w) (s : ByteArray) (hs : s.size ≤ 1000000) :
    (Instr.lookup t (.map (some b)) (.string s) false).run P w = .ok ((m s).getD z) w := by
  obtain ⟨D, h1, h3⟩ := h
  obtain ⟨v, ps, hrun, hv⟩ := h1.lookup (Go.Maps.string_keyed hk) ht hz (heldR_mk z) (Go.WideMaps.keyOf_string_mk hk (show s.size ≤ maxLen by unfold maxLen; omega))
  rw [(h3 s).2 z] at hv
  simp only [heldR, Option.some.injEq, Prod.mk.injEq, DataW.held.injEq] at hv
  rw [hrun, hv.1]
theorem MapS.look_ok (h : MapS P k w b n m) (hk : P.underlying k = some .string) (ht : P.underlying t = some (.map k e)) {z : Value} (hz : (zeroValue e).run P w = .ok z w) (s : ByteArray) (hs : s.size ≤ 1000000) :
    (Instr.lookup t (.map (some b)) (.string s) true).run P w = .ok (.tuple #[(m s).getD z, .bool (m s).isSome]) w := by
  obtain ⟨D, h1, h3⟩ := h
  obtain ⟨v, ps, hrun, hv⟩ := h1.look_ok (Go.Maps.string_keyed hk) ht hz (heldR_mk z) (Go.WideMaps.keyOf_string_mk hk (show s.size ≤ maxLen by unfold maxLen; omega))
  rw [(h3 s).2 z] at hv
  simp only [heldR, Option.some.injEq, Prod.mk.injEq, DataW.held.injEq] at hv
  rw [hrun, hv.1, (h3 s).1]
theorem MapS.put (h : MapS P k w b n m) (hk : P.underlying k = some .string) (ht : P.underlying t = some (.map k e)) (hn : n ≤ 1000000) (s : ByteArray) (hs : s.size ≤ 1000000) (v : Value) :
    ∃ w', (Instr.mapUpdate t (.map (some b)) (.string s) v).run P w = .ok () w' ∧ MapS P k w' b (n + 1) (putS m s v) ∧ But b w w' := by
  obtain ⟨D, h1, h3⟩ := h
  have hM := h1.isMap
  obtain ⟨w', hrun, h4, hg⟩ := h1.update (Go.Maps.string_keyed hk) ht (show n < maxLen by unfold maxLen; omega) (Go.WideMaps.keyOf_string_mk hk (show s.size ≤ maxLen by unfold maxLen; omega)) (heldR_mk v)
  refine ⟨w', hrun, ⟨_, h4, fun x => ?_⟩, (Kept.refl _ _).grown hg (fun k hk => by cases hk; exact Or.inr (by simp))⟩
  by_cases hx : x = s
  · subst hx
    have hkl : WideAt.IsKeyLit (.string x.data.toList) := by simp [WideAt.IsKeyLit]
    refine ⟨?_, fun z => ?_⟩
    · rw [Go.Maps.has_put_same hM hkl, putS_same]; rfl
    · rw [Go.Maps.atKey_put_same hM hkl, putS_same]; rfl
  · have hne : (Lit.string x.data.toList) ≠ .string s.data.toList := fun e => hx (Go.WideShapes.bytes_inj (by injection e))
    refine ⟨?_, fun z => ?_⟩
    · rw [Go.Maps.has_put_other hne, putS_other hx, (h3 x).1]
    · rw [Go.Maps.atKey_put_other hne, putS_other hx, (h3 x).2]
end

/-- A range over the map in block b is under way (its iterator is block r): left says which strings are still to come. -/
def RangeS (P : Program) (k : TypeId) (w : World) (b r n : Nat) (m : ByteArray → Option Value) (left : ByteArray → Bool) (cnt : Nat) : Prop :=
  ∃ (D : DataW Value) (lf : Lit → Bool), w.ranges P k heldR b r n D lf cnt ∧ (∀ s : ByteArray, Maps.has D (.string s.data.toList) = (m s).isSome ∧ ∀ z, D.atKey (.string s.data.toList) (.held z) = .held ((m s).getD z)) ∧ ∀ s : ByteArray, lf (.string s.data.toList) = left s
theorem keyOf_string_inv {P : Program} {k : TypeId} (hk : P.underlying k = some .string) {key : Value} {kl : Lit} (h : keyOf P k key = some kl) : ∃ s : ByteArray, key = .string s ∧ kl = .string s.data.toList ∧ s.size ≤ maxLen := by
  cases key <;> simp [keyOf, hk, mapKey] at h
  obtain ⟨hw, rfl⟩ := h
  exact ⟨_, rfl, rfl, hw⟩

section
variable {P : Program} {k e t : TypeId} {w w' : World} {b r n cnt : Nat} {m : ByteArray → Option Value} {left : ByteArray → Bool}
theorem RangeS.map (h : RangeS P k w b r n m left cnt) : MapS P k w b n m := by
  obtain ⟨D, lf, h1, h2, h3⟩ := h
  exact ⟨D, h1.owns, h2⟩
theorem RangeS.ne (h : RangeS P k w b r n m left cnt) : r ≠ b := by
  obtain ⟨D, lf, h1, h2, h3⟩ := h
  exact h1.ne
theorem RangeS.lt (h : RangeS P k w b r n m left cnt) : r < w.heap.size := by
  obtain ⟨D, lf, h1, h2, h3⟩ := h
  exact h1.lt
theorem RangeS.keep {F : Nat → Prop} (h : RangeS P k w b r n m left cnt) (hk : Kept F w w') (hb' : F b) (hr' : F r) : RangeS P k w' b r n m left cnt := by
  have hbl := h.map.lt
  have hrl := h.lt
  obtain ⟨D, lf, ⟨es, clock, since, seen, c0, hb, F, hs, hD, hr, rest⟩, h2, h3⟩ := h
  exact ⟨D, lf, ⟨es, clock, since, seen, c0, (hk.block b hbl hb').trans hb, F, hs, hD, (hk.block r hrl hr').trans hr, rest⟩, h2, h3⟩
theorem MapS.range (h : MapS P k w b n m) (hk : P.underlying k = some .string) (ht : P.underlying t = some (.map k e)) :
    ∃ w' cnt, (Instr.range t (.map (some b))).run P w = .ok (.pointer (some ⟨w.heap.size, 0, none⟩)) w' ∧ RangeS P k w' b w.heap.size n m (fun s => (m s).isSome) cnt ∧ All w w' ∧ w'.heap.size = w.heap.size + 1 := by
  obtain ⟨D, h1, h3⟩ := h
  obtain ⟨w', hrun, h4, hg, hsz⟩ := h1.range (Go.Maps.string_keyed hk) ht
  exact ⟨w', _, hrun, ⟨D, _, h4, h3, fun s => (h3 s).1⟩, (Kept.refl _ _).grown hg (fun k hk => by cases hk), hsz⟩
/-- The next step: nothing is left, or one of those left comes. -/
theorem RangeS.next (h : RangeS P k w b r n m left cnt) (hk : P.underlying k = some .string) (ty : TypeId) :
    ((∀ s : ByteArray, left s = false) ∧ (Instr.next (.pointer (some ⟨r, 0, none⟩)) false ty).run P w = .ok (.tuple #[.bool false]) w) ∨
    ∃ (s : ByteArray) (v : Value) (w' : World) (cnt' : Nat), left s = true ∧ m s = some v ∧ (Instr.next (.pointer (some ⟨r, 0, none⟩)) false ty).run P w = .ok (.tuple #[.bool true, .string s, v]) w' ∧
      RangeS P k w' b r n m (fun x => left x && !decide (x = s)) cnt' ∧ cnt' < cnt ∧ But r w w' ∧ w'.heap.size = w.heap.size ∧ (Instr.entry (.pointer (some ⟨r, 0, none⟩))).run P w' = .ok (.tuple #[.string s, v]) w' := by
  obtain ⟨D, lf, h1, h2, h3⟩ := h
  rcases h1.next (Go.Maps.string_keyed hk) ty with ⟨-, hl, hrun⟩ | ⟨key, v, kl, y, w', cnt', hkey, hlk, hv, hat, hrun, hrg, hlt, hgr, hsz, hen⟩
  · exact Or.inl ⟨fun s => by rw [← h3 s]; exact hl _, hrun⟩
  · obtain ⟨s, rfl, rfl, -⟩ := keyOf_string_inv hk hkey
    have hy : y = (.held v, []) := by
      have := heldR_mk v
      rw [hv] at this
      injection this
    subst hy
    have hms : m s = some v := by
      have e0 := hat (.held v)
      rw [(h2 s).2] at e0
      have hh : Maps.has D (.string s.data.toList) = true := Go.Maps.has_true_of_atKey hat
      rw [(h2 s).1] at hh
      obtain ⟨u, hu⟩ := Option.isSome_iff_exists.1 hh
      rw [hu] at e0 ⊢
      simp only [Option.getD_some, DataW.held.injEq] at e0
      rw [e0]
    refine Or.inr ⟨s, v, w', cnt', by rw [← h3 s]; exact hlk, hms, hrun, ⟨D, _, hrg, h2, fun x => ?_⟩, hlt, (Kept.refl _ _).grown hgr (fun k hk => by cases hk; exact Or.inr (by simp)), hsz, hen⟩
    show (lf (.string x.data.toList) && !(Lit.string x.data.toList).sameKey (.string s.data.toList)) = _
    rw [h3 x]
    congr 1
    by_cases hx : x = s
    · subst hx
      rw [WideAt.sameKey_self (by simp [WideAt.IsKeyLit])]
      simp
    · rw [Go.Maps.sameKey_ne (fun e => hx (Go.WideShapes.bytes_inj (by injection e)))]
      simp [hx]
end
end Go.Proofs.YtgobnlgmbplggaaGreatDoor
