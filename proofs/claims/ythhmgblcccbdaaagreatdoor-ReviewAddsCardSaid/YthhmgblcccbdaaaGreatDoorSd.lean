/- Pairs, and rows that were sorted: plain. No program in sight. -/
import Derived.Test.YthhmgblcccbdaaaGreatDoorRb
import Derived.Sort.OwnSorted
import Derived.Shelf.SlSortCmp.Insertion
namespace Go.Proofs.YthhmgblcccbdaaaGreatDoor
open Go.RowKit Go.Sort

section
variable {α : Type} [Inhabited α] (enc : α → Value)
theorem holdsE_of_block {w : World} {g : Nat} {cur : Array Value} {e : TypeId} {ss : List α} (hb : w.heap[g]? = some (.cells cur e (0, 0))) (ht : cur.toList.take ss.length = ss.map enc) : Holds enc w g 0 ss.toArray := by
  intro j hj
  have hj' : j < ss.length := by simpa using hj
  refine ⟨?_, by simp [World.frozen?, hb]⟩
  have h1 : (cur.toList.take ss.length)[j]? = (ss.map enc)[j]? := by rw [ht]
  rw [List.getElem?_take_of_lt hj'] at h1
  simp only [World.cell?, hb, Nat.zero_add]
  simp only [Option.isSome_none, Bool.false_eq_true, if_false]
  rw [← Array.getElem?_toList, h1]
  simp [hj']
theorem heapE_sorted {w : World} {g n : Nat} {os : Array Obj} {cur : Array Value} {e : TypeId} {fr : Nat × Nat} (d : Array α) (hb : w.heap[g]? = some (.cells cur e fr)) :
    (grow (putRow enc (Sort.ahead w n) g 0 d) os).heap[g]? = some (.cells (putCells enc 0 d cur) e fr) := by
  have hg : g < w.heap.size := (Array.getElem?_eq_some_iff.1 hb).1
  rw [heap_grow_old _ _ (by simpa using hg)]
  simp [putRow, mapBlock, Sort.ahead, Array.getElem?_modify, hb, onCells]
theorem grownE_sorted {w : World} {g n : Nat} {os : Array Obj} (d : Array α) : w.grownBy (grow (putRow enc (Sort.ahead w n) g 0 d) os) (some g) := by
  refine ⟨rfl, rfl, rfl, by simp, fun k hk hne => ?_⟩
  rw [heap_grow_old _ _ (by simpa using hk)]
  have : g ≠ k := fun e => hne (by rw [e])
  simp [putRow, mapBlock, Sort.ahead, Array.getElem?_modify, this]
theorem takeE_putCells (cur : Array Value) (ts : List α) (h : ts.length ≤ cur.size) : (putCells enc 0 ts.toArray cur).toList.take ts.length = ts.map enc := by
  apply List.ext_getElem?
  intro j
  by_cases hj : j < ts.length
  · rw [List.getElem?_take_of_lt hj, Array.getElem?_toList]
    simp [putCells, hj, show j < cur.size by omega]
  · rw [List.getElem?_take_eq_none (by omega), List.getElem?_eq_none (by simp; omega)]
theorem ownsRowE_sorted {w : World} {base g cap n m sz : Nat} {e : TypeId} {os : Array Obj} {cur : Array Value} {ts : List α} (hl : ts.length = m * sz) (hbase : base ≤ g) (hb : w.heap[g]? = some (.cells cur e (0, 0)))
    (h1 : m ≤ cap) (h2 : cap ≤ maxLen) (h3 : cur.size = cap * sz) :
    (grow (putRow enc (Sort.ahead w n) g 0 ts.toArray) os).ownsRow base e sz (.slice (some ⟨g, 0, none⟩) m cap) m (ts.map enc) := by
  have hle : m * sz ≤ cap * sz := Nat.mul_le_mul_right _ h1
  exact ⟨by simp [hl], .inr ⟨g, cap, _, rfl, hbase, heapE_sorted enc _ hb, h1, h2, by simp [putCells, h3], by rw [← hl]; exact takeE_putCells enc cur ts (by omega)⟩⟩
end

theorem Acc.intCells {T : TypeId} {F : Nat → Prop} {B : Nat} {w : World} {v : Value} {zs : List Int} (h : Acc RInt 1 T F B w v zs) : w.ownsRow B T 1 v zs.length (zs.map (Value.int .i64)) := by
  obtain ⟨cells, ho, he⟩ := h
  have hcl := ho.1
  have hz : cells = zs.map (Value.int .i64) := by
    apply List.ext_getElem?
    intro j
    by_cases hj : j < zs.length
    · have h1 : (cells.drop (j * 1)).take 1 = [Value.int .i64 zs[j]] := he j hj
      have := congrArg (fun l => l[0]?) h1
      simpa [List.getElem?_take, List.getElem?_drop, List.getElem?_eq_getElem hj] using this
    · rw [List.getElem?_eq_none (by omega), List.getElem?_eq_none (by simp; omega)]
  rw [← hz]; exact ho
theorem Acc.ofIntCells {T : TypeId} {F : Nat → Prop} {B : Nat} {w : World} {v : Value} {zs : List Int} (h : w.ownsRow B T 1 v zs.length (zs.map (Value.int .i64))) : Acc RInt 1 T F B w v zs := by
  refine ⟨_, h, fun j hj => ?_⟩
  show _ = _
  simp only [Nat.mul_one]
  have hj' : j < (zs.map (Value.int .i64)).length := by simpa using hj
  rw [List.drop_eq_getElem_cons hj', List.take_succ_cons, List.take_zero, List.getElem_map]

/-- A pair of short strings. -/
structure Pair2 where
  paper : ByteArray
  person : ByteArray
  h1 : paper.size ≤ 1000000
  h2 : person.size ≤ 1000000
instance : Inhabited Pair2 := ⟨⟨ByteArray.empty, ByteArray.empty, by decide, by decide⟩⟩
def encP (x : Pair2) : List Value := [.string x.paper, .string x.person]
def RPair : Rel Pair2 := fun _ _ vs x => vs = encP x
theorem RPair.ok : RPair.Ok := ⟨fun _ h => h, fun _ h => h, fun h => h⟩
theorem Sl.atPair {F : Nat → Prop} {w : World} {a : Option Addr} {len : Nat} {xs : List Pair2} (h : Sl RPair 2 F w a len xs) {k : Nat} (hk : k < len) :
    ∃ b off x, a = some ⟨b, off, none⟩ ∧ F b ∧ w.cell? ⟨b, off + k * 2, none⟩ = some (.string x.paper) ∧ w.cell? ⟨b, off + k * 2 + 1, none⟩ = some (.string x.person) ∧ xs[k]? = some x ∧ xs = xs.take k ++ x :: xs.drop (k + 1) ∧ xs.take (k + 1) = xs.take k ++ [x] := by
  obtain ⟨b, off, vs, x, ha, hF, h1, h2, rfl, h4, h5, h6⟩ := h.at hk
  have p0 := h2 0 (Nat.succ_pos _)
  have p1 := h2 1 (Nat.succ_lt_succ (Nat.succ_pos _))
  rw [Nat.add_zero] at p0
  exact ⟨b, off, x, ha, hF, p0, p1, h4, h5, h6⟩

def cfP (x y : Pair2) : Int := cmpP x.paper x.person y.paper y.person
theorem cmp_trans {a b c : List UInt8} (h1 : Lib.compareBytes a b < 0) (h2 : Lib.compareBytes b c < 0) : Lib.compareBytes a c < 0 := by
  rw [cmp_neg] at *
  exact bl_trans h1 h2
theorem cmp_ntrans {a b c : List UInt8} (h1 : ¬ Lib.compareBytes a b < 0) (h2 : ¬ Lib.compareBytes b c < 0) : ¬ Lib.compareBytes a c < 0 := by
  have s1 := cmp_swap a b
  have s2 := cmp_swap b c
  have s3 := cmp_swap a c
  intro h
  rcases cmp_vals a b with e | e | e
  · omega
  · have := (cmp_zero a b).1 e
    subst this
    exact h2 h
  · rcases cmp_vals b c with e' | e' | e'
    · omega
    · have := (cmp_zero b c).1 e'
      subst this
      exact h1 h
    · have := cmp_trans (a := c) (b := b) (c := a) (by omega) (by omega)
      omega
theorem ltP (x y : Pair2) : ltOf cfP x y = true ↔ Lib.compareBytes x.paper.data.toList y.paper.data.toList < 0 ∨ x.paper = y.paper ∧ Lib.compareBytes x.person.data.toList y.person.data.toList < 0 := by
  unfold ltOf cfP cmpP
  rw [decide_eq_true_eq]
  by_cases h : Lib.compareBytes x.paper.data.toList y.paper.data.toList = 0
  · have e : x.paper = y.paper := Go.WideShapes.bytes_inj ((cmp_zero _ _).1 h)
    rw [if_neg (by simp [h])]
    constructor
    · intro h'
      exact Or.inr ⟨e, h'⟩
    · rintro (h' | ⟨-, h'⟩)
      · omega
      · exact h'
  · have e : x.paper ≠ y.paper := fun e => h (by rw [e]; exact (cmp_zero _ _).2 rfl)
    rw [if_pos h]
    simp [e]
theorem swoP : SWO (ltOf cfP) where
  irrefl x := by
    rw [Bool.eq_false_iff]
    intro h
    rw [ltP, (cmp_zero _ _).2 rfl, (cmp_zero _ _).2 rfl] at h
    omega
  trans x y z h1 h2 := by
    rw [ltP] at *
    rcases h1 with h1 | ⟨e1, h1⟩
    · rcases h2 with h2 | ⟨e2, h2⟩
      · exact Or.inl (cmp_trans h1 h2)
      · rw [e2] at h1; exact Or.inl h1
    · rcases h2 with h2 | ⟨e2, h2⟩
      · rw [← e1] at h2; exact Or.inl h2
      · exact Or.inr ⟨e1.trans e2, cmp_trans h1 h2⟩
  ntrans x y z h1 h2 := by
    rw [Bool.eq_false_iff] at *
    intro h
    rw [ne_eq, ltP] at h1 h2
    rw [ltP] at h
    have h1' := not_or.1 h1
    have h2' := not_or.1 h2
    have n1 := cmp_ntrans h1'.1 h2'.1
    rcases h with h | ⟨e, h⟩
    · exact n1 h
    · have s1 := cmp_swap x.paper.data.toList y.paper.data.toList
      have hxy : x.paper = y.paper := by
        apply Go.WideShapes.bytes_inj
        rw [← cmp_zero]
        have a1 := h1'.1
        have a2 := h2'.1
        rw [← e, s1] at a2
        omega
      have hyz : y.paper = z.paper := hxy.symm.trans e
      exact cmp_ntrans (fun hh => h1'.2 ⟨hxy, hh⟩) (fun hh => h2'.2 ⟨hyz, hh⟩) h
end Go.Proofs.YthhmgblcccbdaaaGreatDoor
