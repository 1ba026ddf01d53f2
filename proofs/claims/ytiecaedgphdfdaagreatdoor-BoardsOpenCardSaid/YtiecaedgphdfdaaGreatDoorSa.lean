/- Sorting what the call gathered: numbers, pairs. -/
import Derived.Test.YtiecaedgphdfdaaGreatDoorRb
import Derived.Test.YtiecaedgphdfdaaGreatDoorSn
import Derived.Sort.OwnSorted
namespace Go.Proofs.YtiecaedgphdfdaaGreatDoor
open Go.RowKit Go.Sort

section
variable {α : Type} [Inhabited α] (enc : α → Value)
theorem holdsE_of_block {w : World} {g : Nat} {cur : Array Value} {e : TypeId} {ss : List α} (hb : w.heap[g]? = some (.cells cur e (0, 0))) (ht : cur.toList.take ss.length = ss.map enc) : Holds enc w g 0 ss.toArray := by
  intro j hj
  have hj' : j < ss.length := by simpa using hj
  refine ⟨?_, by simp [World.frozen?, hb]⟩
  have h1 : (cur.toList.take ss.length)[j]? = (ss.map enc)[j]? := by rw [ht]
  rw [List.getElem?_take_of_lt hj'] at h1
  simp only [World.cell?, hb, Nat.zero_add]
  simp only [Option.isSome_none, Bool.false_eq_true, if_false]
  rw [← Array.getElem?_toList, h1]
  simp [hj']
theorem heapE_sorted {w : World} {g n : Nat} {os : Array Obj} {cur : Array Value} {e : TypeId} {fr : Nat × Nat} (d : Array α) (hb : w.heap[g]? = some (.cells cur e fr)) :
    (grow (putRow enc (Sort.ahead w n) g 0 d) os).heap[g]? = some (.cells (putCells enc 0 d cur) e fr) := by
  have hg : g < w.heap.size := (Array.getElem?_eq_some_iff.1 hb).1
  rw [heap_grow_old _ _ (by simpa using hg)]
  simp [putRow, mapBlock, Sort.ahead, Array.getElem?_modify, hb, onCells]
theorem grownE_sorted {w : World} {g n : Nat} {os : Array Obj} (d : Array α) : w.grownBy (grow (putRow enc (Sort.ahead w n) g 0 d) os) (some g) := by
  refine ⟨rfl, rfl, rfl, by simp, fun k hk hne => ?_⟩
  rw [heap_grow_old _ _ (by simpa using hk)]
  have : g ≠ k := fun e => hne (by rw [e])
  simp [putRow, mapBlock, Sort.ahead, Array.getElem?_modify, this]
theorem takeE_putCells (cur : Array Value) (ts : List α) (h : ts.length ≤ cur.size) : (putCells enc 0 ts.toArray cur).toList.take ts.length = ts.map enc := by
  apply List.ext_getElem?
  intro j
  by_cases hj : j < ts.length
  · rw [List.getElem?_take_of_lt hj, Array.getElem?_toList]
    simp [putCells, hj, show j < cur.size by omega]
  · rw [List.getElem?_take_eq_none (by omega), List.getElem?_eq_none (by simp; omega)]
theorem ownsRowE_sorted {w : World} {base g cap n m sz : Nat} {e : TypeId} {os : Array Obj} {cur : Array Value} {ts : List α} (hl : ts.length = m * sz) (hbase : base ≤ g) (hb : w.heap[g]? = some (.cells cur e (0, 0)))
    (h1 : m ≤ cap) (h2 : cap ≤ maxLen) (h3 : cur.size = cap * sz) :
    (grow (putRow enc (Sort.ahead w n) g 0 ts.toArray) os).ownsRow base e sz (.slice (some ⟨g, 0, none⟩) m cap) m (ts.map enc) := by
  have hle : m * sz ≤ cap * sz := Nat.mul_le_mul_right _ h1
  exact ⟨by simp [hl], .inr ⟨g, cap, _, rfl, hbase, heapE_sorted enc _ hb, h1, h2, by simp [putCells, h3], by rw [← hl]; exact takeE_putCells enc cur ts (by omega)⟩⟩
end

theorem Acc.intCells {T : TypeId} {F : Nat → Prop} {B : Nat} {w : World} {v : Value} {zs : List Int} (h : Acc RInt 1 T F B w v zs) : w.ownsRow B T 1 v zs.length (zs.map (Value.int .i64)) := by
  obtain ⟨cells, ho, he⟩ := h
  have hcl := ho.1
  have hz : cells = zs.map (Value.int .i64) := by
    apply List.ext_getElem?
    intro j
    by_cases hj : j < zs.length
    · have h1 : (cells.drop (j * 1)).take 1 = [Value.int .i64 zs[j]] := he j hj
      have := congrArg (fun l => l[0]?) h1
      simpa [List.getElem?_take, List.getElem?_drop, List.getElem?_eq_getElem hj] using this
    · rw [List.getElem?_eq_none (by omega), List.getElem?_eq_none (by simp; omega)]
  rw [← hz]; exact ho
theorem Acc.ofIntCells {T : TypeId} {F : Nat → Prop} {B : Nat} {w : World} {v : Value} {zs : List Int} (h : w.ownsRow B T 1 v zs.length (zs.map (Value.int .i64))) : Acc RInt 1 T F B w v zs := by
  refine ⟨_, h, fun j hj => ?_⟩
  show _ = _
  simp only [Nat.mul_one]
  have hj' : j < (zs.map (Value.int .i64)).length := by simpa using hj
  rw [List.drop_eq_getElem_cons hj', List.take_succ_cons, List.take_zero, List.getElem_map]

theorem sortI_any {T : TypeId} {F : Nat → Prop} {B : Nat} (v : Value) (zs : List Int) (w : World) (h : Acc RInt 1 T F B w v zs) (hl : zs.length ≤ 1000000) :
    Calls Tryz.prog 126 #[v] w fun e w' => e = .returned (.tuple #[]) ∧ Acc RInt 1 T F B w' v (srtI zs) ∧ w.grownBy w' v.ownBlock := by
  have ho := h.intCells
  rcases ho.2 with ⟨rfl, h0⟩ | ⟨g, cap, cur, rfl, hbase, hb, h1, h2, h3, h4⟩
  · have hnil : zs = [] := List.eq_nil_of_length_eq_zero h0
    subst hnil
    refine (Tryz.slices_Sort_int_none none 0 w).mono ?_
    rintro e w' ⟨rfl, rfl⟩
    exact ⟨rfl, by rw [srtI_nil.2 rfl]; exact h, ⟨rfl, rfl, rfl, Nat.le_refl _, fun _ _ _ => rfl⟩⟩
  · have hH : Holds (Value.int .i64) w g 0 zs.toArray := holdsE_of_block _ hb (by simpa using h4)
    refine (Tryz.slices_Sort_int g 0 cap zs w hH (Array.getElem?_eq_some_iff.1 hb).1 (by omega)).mono ?_
    rintro e w' ⟨rfl, n, os, rfl⟩
    refine ⟨rfl, ?_, grownE_sorted _ _⟩
    have hs := ownsRowE_sorted (Value.int .i64) (w := w) (base := B) (g := g) (cap := cap) (n := n) (m := zs.length) (sz := 1) (e := T) (os := os) (cur := cur) (ts := srtI zs) (by simp [srtI_len]) hbase hb h1 h2 h3
    apply Acc.ofIntCells
    rw [srtI_len]
    exact hs

/-- A pair of short strings. -/
structure Pair2 where
  paper : ByteArray
  person : ByteArray
  h1 : paper.size ≤ 1000000
  h2 : person.size ≤ 1000000
instance : Inhabited Pair2 := ⟨⟨ByteArray.empty, ByteArray.empty, by decide, by decide⟩⟩
def encP (x : Pair2) : List Value := [.string x.paper, .string x.person]
def RPair : Rel Pair2 := fun _ _ vs x => vs = encP x
theorem RPair.ok : RPair.Ok := ⟨fun _ h => h, fun _ h => h, fun h => h⟩
theorem Sl.atPair {F : Nat → Prop} {w : World} {a : Option Addr} {len : Nat} {xs : List Pair2} (h : Sl RPair 2 F w a len xs) {k : Nat} (hk : k < len) :
    ∃ b off x, a = some ⟨b, off, none⟩ ∧ F b ∧ w.cell? ⟨b, off + k * 2, none⟩ = some (.string x.paper) ∧ w.cell? ⟨b, off + k * 2 + 1, none⟩ = some (.string x.person) ∧ xs[k]? = some x ∧ xs = xs.take k ++ x :: xs.drop (k + 1) ∧ xs.take (k + 1) = xs.take k ++ [x] := by
  obtain ⟨b, off, vs, x, ha, hF, h1, h2, rfl, h4, h5, h6⟩ := h.at hk
  have p0 := h2 0 (Nat.succ_pos _)
  have p1 := h2 1 (Nat.succ_lt_succ (Nat.succ_pos _))
  rw [Nat.add_zero] at p0
  exact ⟨b, off, x, ha, hF, p0, p1, h4, h5, h6⟩

def cfP (x y : Pair2) : Int := cmpP x.paper x.person y.paper y.person
theorem cmp_trans {a b c : List UInt8} (h1 : Lib.compareBytes a b < 0) (h2 : Lib.compareBytes b c < 0) : Lib.compareBytes a c < 0 := by
  rw [cmp_neg] at *
  exact bl_trans h1 h2
theorem cmp_ntrans {a b c : List UInt8} (h1 : ¬ Lib.compareBytes a b < 0) (h2 : ¬ Lib.compareBytes b c < 0) : ¬ Lib.compareBytes a c < 0 := by
  have s1 := cmp_swap a b
  have s2 := cmp_swap b c
  have s3 := cmp_swap a c
  intro h
  rcases cmp_vals a b with e | e | e
  · omega
  · have := (cmp_zero a b).1 e
    subst this
    exact h2 h
  · rcases cmp_vals b c with e' | e' | e'
    · omega
    · have := (cmp_zero b c).1 e'
      subst this
      exact h1 h
    · have := cmp_trans (a := c) (b := b) (c := a) (by omega) (by omega)
      omega
theorem ltP (x y : Pair2) : ltOf cfP x y = true ↔ Lib.compareBytes x.paper.data.toList y.paper.data.toList < 0 ∨ x.paper = y.paper ∧ Lib.compareBytes x.person.data.toList y.person.data.toList < 0 := by
  unfold ltOf cfP cmpP
  rw [decide_eq_true_eq]
  by_cases h : Lib.compareBytes x.paper.data.toList y.paper.data.toList = 0
  · have e : x.paper = y.paper := Go.WideShapes.bytes_inj ((cmp_zero _ _).1 h)
    rw [if_neg (by simp [h])]
    constructor
    · intro h'
      exact Or.inr ⟨e, h'⟩
    · rintro (h' | ⟨-, h'⟩)
      · omega
      · exact h'
  · have e : x.paper ≠ y.paper := fun e => h (by rw [e]; exact (cmp_zero _ _).2 rfl)
    rw [if_pos h]
    simp [e]
theorem swoP : SWO (ltOf cfP) where
  irrefl x := by
    rw [Bool.eq_false_iff]
    intro h
    rw [ltP, (cmp_zero _ _).2 rfl, (cmp_zero _ _).2 rfl] at h
    omega
  trans x y z h1 h2 := by
    rw [ltP] at *
    rcases h1 with h1 | ⟨e1, h1⟩
    · rcases h2 with h2 | ⟨e2, h2⟩
      · exact Or.inl (cmp_trans h1 h2)
      · rw [e2] at h1; exact Or.inl h1
    · rcases h2 with h2 | ⟨e2, h2⟩
      · rw [← e1] at h2; exact Or.inl h2
      · exact Or.inr ⟨e1.trans e2, cmp_trans h1 h2⟩
  ntrans x y z h1 h2 := by
    rw [Bool.eq_false_iff] at *
    intro h
    rw [ne_eq, ltP] at h1 h2
    rw [ltP] at h
    have h1' := not_or.1 h1
    have h2' := not_or.1 h2
    have n1 := cmp_ntrans h1'.1 h2'.1
    rcases h with h | ⟨e, h⟩
    · exact n1 h
    · have s1 := cmp_swap x.paper.data.toList y.paper.data.toList
      have hxy : x.paper = y.paper := by
        apply Go.WideShapes.bytes_inj
        rw [← cmp_zero]
        have a1 := h1'.1
        have a2 := h2'.1
        rw [← e, s1] at a2
        omega
      have hyz : y.paper = z.paper := hxy.symm.trans e
      exact cmp_ntrans (fun hh => h1'.2 ⟨hxy, hh⟩) (fun hh => h2'.2 ⟨hyz, hh⟩) h

theorem flat_at (d : Array Pair2) (i : Nat) (hi : i < d.size) : ((flatK encP 2 d).toList.drop (i * 2)).take 2 = encP d[i]! := by
  have hl : (flatK encP 2 d).toList.length = d.size * 2 := by simp
  have hg : ∀ t, t < d.size * 2 → (flatK encP 2 d).toList[t]? = some ((encP d[t / 2]!)[t % 2]!) := fun t ht => by
    rw [Array.getElem?_toList, Array.getElem?_eq_getElem (by simpa using ht)]
    have := get_flatK encP 2 d t ht
    rw [getElem!_pos _ t (by simpa using ht)] at this
    rw [this]
  have h0 := hg (i * 2) (by omega)
  have h1 := hg (i * 2 + 1) (by omega)
  rw [show i * 2 / 2 = i by omega, show i * 2 % 2 = 0 by omega] at h0
  rw [show (i * 2 + 1) / 2 = i by omega, show (i * 2 + 1) % 2 = 1 by omega] at h1
  obtain ⟨k0, e0⟩ := List.getElem?_eq_some_iff.1 h0
  obtain ⟨k1, e1⟩ := List.getElem?_eq_some_iff.1 h1
  rw [List.drop_eq_getElem_cons k0, List.drop_eq_getElem_cons k1, List.take_succ_cons, List.take_succ_cons, List.take_zero, e0, e1]
  rfl

theorem sortP_any {T : TypeId} {F : Nat → Prop} {B : Nat} (v : Value) (ps : List Pair2) (w : World) (h : Acc RPair 2 T F B w v ps) (hl : ps.length ≤ 1000000) :
    Calls Tryz.prog 121 #[v, .func (.func 77) #[] #[]] w fun e w' => e = .returned (.tuple #[]) ∧ ∃ qs : List Pair2, qs.length = ps.length ∧ Acc RPair 2 T F B w' v qs ∧ w.grownBy w' v.ownBlock := by
  obtain ⟨cells, ho, he⟩ := h
  have hcl := ho.1
  have eg : ∀ args w, (callFunc 77 args).run Tryz.prog w = .ok (.enter 77 args) w := enters_of Tryz.func77 (by kernel_rfl) rfl
  rcases ho.2 with ⟨rfl, h0⟩ | ⟨g, cap, cur, rfl, hbase, hb, h1, h2, h3, h4⟩
  · have hnil : ps = [] := List.eq_nil_of_length_eq_zero h0
    subst hnil
    refine (Tryz.slices_SortFunc_pair_none none 0 _ w).mono ?_
    rintro e w' ⟨rfl, rfl⟩
    exact ⟨rfl, [], rfl, ⟨cells, ho, he⟩, ⟨rfl, rfl, rfl, Nat.le_refl _, fun _ _ _ => rfl⟩⟩
  · have hfl : (flatK encP 2 ps.toArray).toList = cells := by
      apply List.ext_getElem?
      intro t
      by_cases ht : t < ps.length * 2
      · have hi : t / 2 < ps.length := by omega
        have e1 := flat_at ps.toArray (t / 2) (by simpa using hi)
        have e2 : (cells.drop (t / 2 * 2)).take 2 = encP ps[t / 2] := he (t / 2) hi
        have e3 : ps.toArray[t / 2]! = ps[t / 2] := by simp [hi]
        rw [e3, ← e2] at e1
        have e4 := congrArg (fun l => l[t % 2]?) e1
        have hm : t % 2 < 2 := Nat.mod_lt _ (by omega)
        simp only [List.getElem?_take_of_lt hm, List.getElem?_drop] at e4
        rw [show t / 2 * 2 + t % 2 = t by omega] at e4
        exact e4
      · rw [List.getElem?_eq_none (by simp; omega), List.getElem?_eq_none (by omega)]
    have hH : HoldsK encP 2 w g 0 ps.toArray := by
      have h5 : Holds id w g 0 ((flatK encP 2 ps.toArray).toList).toArray := holdsE_of_block id hb (by rw [hfl, List.map_id, hcl]; exact h4)
      simpa [HoldsK] using h5
    have hC := Tryz.slices_SortFunc_pair encP (fun _ => rfl) (fun x v hv => by simp [encP] at hv; rcases hv with rfl | rfl <;> rfl) cfP swoP 77 #[] g 0 cap ps.toArray w eg (fun _ _ _ _ x y => pairOrder_grow x.paper x.person y.paper y.person _ x.h1 x.h2 y.h1 y.h2) hH (Array.getElem?_eq_some_iff.1 hb).1 (by simp; omega)
    simp only [List.size_toArray] at hC
    refine hC.mono ?_
    rintro e w' ⟨rfl, d', n, os, hp, -, rfl⟩
    have hd : d'.size = ps.length := by simpa using hp.1
    refine ⟨rfl, d'.toList, by simpa using hd, ⟨(flatK encP 2 d').toList.map id, ?_, fun i hi => ?_⟩, grownE_sorted id _⟩
    · have hs := ownsRowE_sorted id (w := w) (base := B) (g := g) (cap := cap) (n := n) (m := ps.length) (sz := 2) (e := T) (os := os) (cur := cur) (ts := (flatK encP 2 d').toList) (by simp [hd]) hbase hb h1 h2 h3
      simpa [hd, sortWorldK, putRowK] using hs
    · have hi' : i < d'.size := by simpa using hi
      show _ = encP _
      rw [List.map_id, flat_at d' i hi']
      simp [hi']
end Go.Proofs.YtiecaedgphdfdaaGreatDoor
