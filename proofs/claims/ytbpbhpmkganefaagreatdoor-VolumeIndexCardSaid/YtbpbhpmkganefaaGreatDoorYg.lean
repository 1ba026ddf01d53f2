/- Entries of an index: how they lie in memory, their order, what an index is. No program in sight. -/
import Derived.Test.YtbpbhpmkganefaaGreatDoorYd
import Derived.Test.YtbpbhpmkganefaaGreatDoorYf
import Derived.Test.YtbpbhpmkganefaaGreatDoorGi
import Derived.Test.YtbpbhpmkganefaaGreatDoorSd
import Derived.Test.YtbpbhpmkganefaaGreatDoorEx
namespace Go.Proofs.YtbpbhpmkganefaaGreatDoor
open Go.RowKit Go.Sort

/-- An entry of an index, by its cells. -/
structure Lst3 where
  name : ByteArray
  key : ByteArray
  pa : Option Addr
  pl : Nat
  pc : Nat
  hn : name.size ≤ 1000000
  hk : key.size ≤ 1000000
instance : Inhabited Lst3 := ⟨⟨⟨#[]⟩, ⟨#[]⟩, none, 0, 0, by decide, by decide⟩⟩
def encLst (x : Lst3) : List Value := [.string x.name, .string x.key, .slice x.pa x.pl x.pc]
def RLst : Rel Lst3 := fun _ _ vs x => vs = encLst x ∧ True
theorem flatLst : Flat RLst encLst (fun _ => True) 3 :=
  ⟨fun _ _ _ _ => Iff.rfl, fun _ => rfl, by decide, fun x u hu => by simp [encLst] at hu; rcases hu with rfl | rfl | rfl <;> rfl⟩
theorem RLst.ok : RLst.Ok := Flat.ok flatLst
abbrev kOf (x : Lst3) : K2 := (x.name, x.key)
abbrev lstVal (x : Lst3) : Value := .agg #[.string x.name, .string x.key, .slice x.pa x.pl x.pc]
theorem Sl.atLst {F : Nat → Prop} {w : World} {a : Option Addr} {len : Nat} {xs : List Lst3} (h : Sl RLst 3 F w a len xs) {k : Nat} (hk : k < len) :
    ∃ b off x, a = some ⟨b, off, none⟩ ∧ F b ∧ w.cell? ⟨b, off + k * 3, none⟩ = some (.string x.name) ∧ w.cell? ⟨b, off + k * 3 + 1, none⟩ = some (.string x.key) ∧ w.cell? ⟨b, off + k * 3 + 2, none⟩ = some (.slice x.pa x.pl x.pc) ∧ xs[k]? = some x ∧ xs.take (k + 1) = xs.take k ++ [x] := by
  obtain ⟨b, off, vs, x, ha, hF, h1, h2, ⟨rfl, -⟩, h4, h5, h6⟩ := h.at hk
  exact ⟨b, off, x, ha, hF, (h2 0 (by simp [encLst])).trans rfl, (h2 1 (by simp [encLst])).trans rfl, (h2 2 (by simp [encLst])).trans rfl, h4, h6⟩

abbrev cmpB (a b : ByteArray) : Int := Lib.compareBytes a.data.toList b.data.toList
/-- The first order, then the second one. -/
def lexC {α : Type} (f g : α → α → Int) (x y : α) : Int := if f x y ≠ 0 then f x y else g x y
section
variable {α : Type} {f g : α → α → Int} {x y : α}
theorem lexC_ne (h : f x y ≠ 0) : lexC f g x y = f x y := by rw [lexC, if_pos h]
theorem lexC_eq (h : f x y = 0) : lexC f g x y = g x y := by rw [lexC, if_neg (by simp [h])]
theorem lexC_zero (h : lexC f g x y = 0) : f x y = 0 ∧ g x y = 0 := by
  by_cases h0 : f x y = 0
  · rw [lexC_eq h0] at h; exact ⟨h0, h⟩
  · rw [lexC_ne h0] at h; exact absurd h h0
theorem isCmp_lex {f g : α → α → Int} (hf : IsCmp f) (hg : IsCmp g) : IsCmp (lexC f g) where
  zero x y h := by
    obtain ⟨h1, h2⟩ := lexC_zero h
    rw [lexC_eq (hf.zero _ _ h1)]; exact hg.zero _ _ h2
  refl x := by rw [lexC_eq (hf.refl x)]; exact hg.refl x
  neg x y h := by
    by_cases h0 : f x y = 0
    · rw [lexC_eq h0] at h
      rw [lexC_eq (hf.zero _ _ h0)]; exact hg.neg _ _ h
    · rw [lexC_ne h0] at h
      have h1 := hf.neg _ _ h
      rw [lexC_ne (by omega)]; exact h1
  lt x y z h1 h2 := by
    by_cases h0 : f x y = 0
    · rw [lexC_eq h0] at h1
      by_cases h3 : f y z = 0
      · rw [lexC_eq h3] at h2
        rw [lexC_eq (hf.eq _ _ _ h0 h3)]; exact hg.lt _ _ _ h1 h2
      · rw [lexC_ne h3] at h2
        have h4 := hf.lt2 x y z (by omega) (by omega)
        rw [lexC_ne (by omega)]; exact h4
    · rw [lexC_ne h0] at h1
      have h3 : f y z ≤ 0 := by
        by_cases h3 : f y z = 0
        · omega
        · rw [lexC_ne h3] at h2; exact h2
      have h4 := hf.lt x y z h1 h3
      rw [lexC_ne (by omega)]; exact h4
  lt2 x y z h1 h2 := by
    by_cases h0 : f y z = 0
    · rw [lexC_eq h0] at h2
      by_cases h3 : f x y = 0
      · rw [lexC_eq h3] at h1
        rw [lexC_eq (hf.eq _ _ _ h3 h0)]; exact hg.lt2 _ _ _ h1 h2
      · rw [lexC_ne h3] at h1
        have h4 := hf.lt x y z (by omega) (by omega)
        rw [lexC_ne (by omega)]; exact h4
    · rw [lexC_ne h0] at h2
      have h3 : f x y ≤ 0 := by
        by_cases h3 : f x y = 0
        · omega
        · rw [lexC_ne h3] at h1; exact h1
      have h4 := hf.lt2 x y z h3 h2
      rw [lexC_ne (by omega)]; exact h4
  eq x y z h1 h2 := by
    obtain ⟨a1, a2⟩ := lexC_zero h1
    obtain ⟨b1, b2⟩ := lexC_zero h2
    rw [lexC_eq (hf.eq _ _ _ a1 b1)]; exact hg.eq _ _ _ a2 b2
theorem isCmp_str (p : α → ByteArray) : IsCmp (fun x y => cmpB (p x) (p y)) where
  zero x y h := (cmp_zero _ _).2 ((cmp_zero _ _).1 h).symm
  refl x := (cmp_zero _ _).2 rfl
  neg x y h := by have := cmp_swap (p x).data.toList (p y).data.toList; simp only [cmpB] at *; omega
  lt x y z h1 h2 := by
    simp only [cmpB] at *
    rcases Int.lt_or_le (Lib.compareBytes (p y).data.toList (p z).data.toList) 0 with h | h
    · exact cmp_trans h1 h
    · rw [← (cmp_zero _ _).1 (by omega : Lib.compareBytes (p y).data.toList (p z).data.toList = 0)]; exact h1
  lt2 x y z h1 h2 := by
    simp only [cmpB] at *
    rcases Int.lt_or_le (Lib.compareBytes (p x).data.toList (p y).data.toList) 0 with h | h
    · exact cmp_trans h h2
    · rw [(cmp_zero _ _).1 (by omega : Lib.compareBytes (p x).data.toList (p y).data.toList = 0)]; exact h2
  eq x y z h1 h2 := by
    simp only [cmpB] at *
    rw [(cmp_zero _ _).1 h1]; exact h2
end
/-- The order of an index: by names without their great letters, by names, by keys. -/
def cfK : K2 → K2 → Int := lexC (fun a b => cmpB (foldB a.1) (foldB b.1)) (lexC (fun a b => cmpB a.1 b.1) (fun a b => cmpB a.2 b.2))
theorem isCmpK : IsCmp cfK := isCmp_lex (isCmp_str fun a : K2 => foldB a.1) (isCmp_lex (isCmp_str fun a : K2 => a.1) (isCmp_str fun a : K2 => a.2))
theorem cfK_zero {a b : K2} (h : cfK a b = 0) : a = b := by
  obtain ⟨-, h1⟩ := lexC_zero h
  obtain ⟨h2, h3⟩ := lexC_zero h1
  have e1 := (cmp_zero _ _).1 h2
  have e2 := (cmp_zero _ _).1 h3
  exact Prod.ext (Go.WideShapes.bytes_inj e1) (Go.WideShapes.bytes_inj e2)
def cfL (x y : Lst3) : Int := cfK (kOf x) (kOf y)
theorem isCmpL : IsCmp cfL := ⟨fun _ _ h => isCmpK.zero _ _ h, fun _ => isCmpK.refl _, fun _ _ h => isCmpK.neg _ _ h, fun _ _ _ h k => isCmpK.lt _ _ _ h k, fun _ _ _ h k => isCmpK.lt2 _ _ _ h k, fun _ _ _ h k => isCmpK.eq _ _ _ h k⟩
theorem cfK_cmpS (a b : K2) : cmpS [foldB a.1, a.1, a.2] [foldB b.1, b.1, b.2] = cfK a b := by
  have e : ∀ x y : ByteArray, cmpS [x] [y] = cmpB x y := fun x y => by
    simp only [cmpS, cmpB]
    split
    · rfl
    · rename_i h; exact (Decidable.of_not_not h).symm
  have e2 : ∀ x y : ByteArray, ∀ l m, cmpS (x :: l) (y :: m) = if cmpB x y ≠ 0 then cmpB x y else cmpS l m := fun _ _ _ _ => rfl
  rw [e2, e2, e]
  rfl

/-- Two lists that rise and have the same elements are one. -/
theorem rise_unique {κ : Type} {cf : κ → κ → Int} (hc : IsCmp cf) : ∀ {a b : List κ}, a.Pairwise (fun x y => cf x y < 0) → b.Pairwise (fun x y => cf x y < 0) → (∀ x, x ∈ a ↔ x ∈ b) → a = b
  | [], [], _, _, _ => rfl
  | [], y :: b, _, _, h => absurd ((h y).2 (by simp)) (by simp)
  | x :: a, [], _, _, h => absurd ((h x).1 (by simp)) (by simp)
  | x :: a, y :: b, ha, hb, h => by
    obtain ⟨a1, a2⟩ := List.pairwise_cons.1 ha
    obtain ⟨b1, b2⟩ := List.pairwise_cons.1 hb
    have hxy : x = y := by
      rcases List.mem_cons.1 ((h x).1 (by simp)) with e | hx
      · exact e
      · rcases List.mem_cons.1 ((h y).2 (by simp)) with e | hy
        · exact e.symm
        · have h1 := a1 y hy
          have h2 := b1 x hx
          have h3 := hc.lt _ _ _ h1 (Int.le_of_lt h2)
          rw [hc.refl] at h3; omega
    subst hxy
    rw [rise_unique hc a2 b2 (fun z => ?_)]
    constructor
    · intro hz
      rcases List.mem_cons.1 ((h z).1 (List.mem_cons_of_mem _ hz)) with e | hz'
      · subst e; have := a1 z hz; rw [hc.refl] at this; omega
      · exact hz'
    · intro hz
      rcases List.mem_cons.1 ((h z).2 (List.mem_cons_of_mem _ hz)) with e | hz'
      · subst e; have := b1 z hz; rw [hc.refl] at this; omega
      · exact hz'

/-- What the entries of an index are gathered of: a key, a page. -/
abbrev Ent : Type := K2 × Int
/-- The pages at a key. -/
def pagesAt (es : List Ent) (q : K2) : List Int := es.filterMap fun e => if e.1 = q then some e.2 else none
theorem pagesAt_nil (q : K2) : pagesAt [] q = [] := rfl
theorem pagesAt_snoc (es : List Ent) (p : K2) (z : Int) : pagesAt (es ++ [(p, z)]) = updK (pagesAt es) p (pagesAt es p ++ [z]) := by
  funext q
  by_cases h : q = p
  · subst h; rw [updK_same]; simp [pagesAt]
  · have h' : ¬ p = q := fun e => h e.symm
    rw [updK_other h]; simp [pagesAt, h']
theorem pagesAt_len (es : List Ent) (q : K2) : (pagesAt es q).length ≤ es.length := List.length_filterMap_le _ _
theorem pagesAt_mem {es : List Ent} {q : K2} {z : Int} (h : z ∈ pagesAt es q) : (q, z) ∈ es := by
  obtain ⟨e, he, h1⟩ := List.mem_filterMap.1 h
  by_cases hq : e.1 = q
  · rw [if_pos hq] at h1
    injection h1 with h1
    rw [← hq, ← h1]; exact he
  · rw [if_neg hq] at h1; cases h1
/-- The keys of an index: each that has pages. -/
structure IsIdx (es : List Ent) (out : List Lst3) : Prop where
  rise : out.Pairwise fun x y => cfL x y < 0
  mem : ∀ q, (∃ x ∈ out, kOf x = q) ↔ pagesAt es q ≠ []
theorem IsIdx.keys {es : List Ent} {a b : List Lst3} (ha : IsIdx es a) (hb : IsIdx es b) : a.map kOf = b.map kOf :=
  rise_unique isCmpK (List.pairwise_map.2 ha.rise) (List.pairwise_map.2 hb.rise) (fun q => by rw [List.mem_map, List.mem_map]; exact (ha.mem q).trans (hb.mem q).symm)
/-- A row of each entry, in memory. -/
def RowsAt (es : List Ent) (w : World) (out : List Lst3) : Prop := ∀ x ∈ out, x.pl = (pagesAt es (kOf x)).length ∧ Sl RInt 1 (fun _ => True) w x.pa x.pl (pagesAt es (kOf x))
theorem RowsAt.keep {es : List Ent} {w w' : World} {out : List Lst3} (h : RowsAt es w out) (k : All w w') : RowsAt es w' out := fun x hx => ⟨(h x hx).1, (h x hx).2.keep RInt.ok k⟩
/-- Entries with keys that all differ, sorted: they rise. -/
theorem rise_of_sorted {out : List Lst3} (hs : out.Pairwise fun x y => cfL x y ≤ 0) (hn : (out.map kOf).Nodup) : out.Pairwise fun x y => cfL x y < 0 := by
  have hn' : out.Pairwise fun x y => kOf x ≠ kOf y := List.pairwise_map.1 hn
  refine (hs.and hn').imp fun {x y} h => ?_
  have h1 : cfL x y ≠ 0 := fun e => h.2 (cfK_zero e)
  have := h.1
  omega
end Go.Proofs.YtbpbhpmkganefaaGreatDoor
