/- Decisions: how they lie in memory; what VerdictsFault, LackingOf and Missing compute; sorting strings that the call gathered. No program in sight but types. -/
import Derived.Test.YteanedcfiellkaaDoorOa
import Derived.Sort.OwnSorted
namespace Go.Proofs.YteanedcfiellkaaDoor
open Go.RowKit

structure Dec3 where
  paper : ByteArray
  yes : Bool
  rank : Int
def RDec : Rel Dec3 := fun _ _ vs x => vs = [.string x.paper, .bool x.yes, .int .i64 x.rank] ∧ x.paper.size ≤ 1000000
theorem RDec.ok : RDec.Ok := ⟨fun _ h => h, fun _ h => h, fun h => h⟩
theorem Sl.atDec {F : Nat → Prop} {w : World} {a : Option Addr} {len : Nat} {xs : List Dec3} (h : Sl RDec 3 F w a len xs) {k : Nat} (hk : k < len) :
    ∃ b off x, a = some ⟨b, off, none⟩ ∧ F b ∧ w.cell? ⟨b, off + k * 3, none⟩ = some (.string x.paper) ∧ w.cell? ⟨b, off + k * 3 + 1, none⟩ = some (.bool x.yes) ∧ w.cell? ⟨b, off + k * 3 + 2, none⟩ = some (.int .i64 x.rank) ∧
      x.paper.size ≤ 1000000 ∧ xs[k]? = some x ∧ xs = xs.take k ++ x :: xs.drop (k + 1) ∧ xs.take (k + 1) = xs.take k ++ [x] := by
  obtain ⟨b, off, vs, x, ha, hF, h1, h2, ⟨rfl, hsm⟩, h4, h5, h6⟩ := h.at hk
  exact ⟨b, off, x, ha, hF, by simpa using h2 0 (by simp), by simpa using h2 1 (by simp), by simpa using h2 2 (by simp), hsm, h4, h5, h6⟩

/-- The error of decisions, behind the papers that were seen. -/
noncomputable def verdF (seen : List ByteArray) : List Dec3 → Int
  | [] => 0
  | d :: l => if isKeyB d.paper = false then 5 else if memB d.paper seen = true then 6 else verdF (seen ++ [d.paper]) l
theorem verdF_cons (seen : List ByteArray) (d : Dec3) (l : List Dec3) : verdF seen (d :: l) = if isKeyB d.paper = false then 5 else if memB d.paper seen = true then 6 else verdF (seen ++ [d.paper]) l := rfl
def papersD (ds : List Dec3) : List ByteArray := ds.map (·.paper)
def VerdAt (ds : List Dec3) (k : Nat) : Prop := verdF [] ds = verdF (papersD (ds.take k)) (ds.drop k)
def isLack (xs : List Fin4) (d : Dec3) : Bool := d.yes && !(finOf xs d.paper).isSome
/-- The papers that are taken, and have no final. -/
def lackF (xs : List Fin4) (ds : List Dec3) : List ByteArray := papersD (ds.filter (isLack xs))
section
variable {xs : List Fin4} {ds : List Dec3} {k : Nat} {d : Dec3}
theorem papersD_succ (h : ds.take (k + 1) = ds.take k ++ [d]) : papersD (ds.take (k + 1)) = papersD (ds.take k) ++ [d.paper] := by
  rw [h]; simp [papersD]
theorem VerdAt.zero (ds : List Dec3) : VerdAt ds 0 := by simp [VerdAt, papersD]
theorem VerdAt.name (h : VerdAt ds k) (hd : ds[k]? = some d) (h1 : isKeyB d.paper = false) : verdF [] ds = 5 := by
  rw [h, drop_at hd, verdF_cons, if_pos h1]
theorem VerdAt.twice (h : VerdAt ds k) (hd : ds[k]? = some d) (h1 : isKeyB d.paper = true) (h2 : memB d.paper (papersD (ds.take k)) = true) : verdF [] ds = 6 := by
  rw [h, drop_at hd, verdF_cons, if_neg (by simp [h1]), if_pos h2]
theorem VerdAt.next (h : VerdAt ds k) (hd : ds[k]? = some d) (ht : ds.take (k + 1) = ds.take k ++ [d]) (h1 : isKeyB d.paper = true) (h2 : memB d.paper (papersD (ds.take k)) = false) : VerdAt ds (k + 1) := by
  unfold VerdAt at *
  rw [h, drop_at hd, verdF_cons, if_neg (by simp [h1]), if_neg (by simp [h2]), papersD_succ ht]
theorem VerdAt.ok (h : VerdAt ds k) (hk : ds.length ≤ k) : verdF [] ds = 0 := by
  rw [h, List.drop_of_length_le hk]; rfl
theorem lackF_yes (ht : ds.take (k + 1) = ds.take k ++ [d]) (h : isLack xs d = true) : lackF xs (ds.take (k + 1)) = lackF xs (ds.take k) ++ [d.paper] := by
  rw [ht]; simp [lackF, papersD, h]
theorem lackF_no (ht : ds.take (k + 1) = ds.take k ++ [d]) (h : isLack xs d = false) : lackF xs (ds.take (k + 1)) = lackF xs (ds.take k) := by
  rw [ht]; simp [lackF, papersD, h]
theorem lackF_len (xs : List Fin4) (ds : List Dec3) : (lackF xs ds).length ≤ ds.length := by
  simp only [lackF, papersD, List.length_map]
  exact List.length_filter_le _ _
theorem lackF_all (hk : ds.length ≤ k) : lackF xs (ds.take k) = lackF xs ds := by rw [List.take_of_length_le hk]
end

/-- Strings, sorted. -/
def sortB (ss : List ByteArray) : List ByteArray := ((ss.map (·.data.toList)).mergeSort fun x y => decide (x ≤ y)).map fun l => ⟨l.toArray⟩
theorem sortB_length (ss : List ByteArray) : (sortB ss).length = ss.length := by simp [sortB]
theorem sortB_size {ss : List ByteArray} (h : ∀ s ∈ ss, s.size ≤ 1000000) : ∀ s ∈ sortB ss, s.size ≤ 1000000 := by
  intro s hs
  obtain ⟨l, hl, rfl⟩ := List.mem_map.1 hs
  rw [List.mem_mergeSort] at hl
  obtain ⟨t, ht, rfl⟩ := List.mem_map.1 hl
  exact h t ht
theorem Acc.strCells {T : TypeId} {F : Nat → Prop} {B : Nat} {w : World} {v : Value} {ss : List ByteArray} (h : Acc RStr 1 T F B w v ss) : w.ownsRow B T 1 v ss.length (ss.map Value.string) ∧ ∀ s ∈ ss, s.size ≤ 1000000 := by
  obtain ⟨cells, ho, he⟩ := h
  have hcl := ho.1
  have hz : cells = ss.map Value.string := by
    apply List.ext_getElem?
    intro j
    by_cases hj : j < ss.length
    · have h1 : (cells.drop (j * 1)).take 1 = [Value.string ss[j]] := (he j hj).1
      have := congrArg (fun l => l[0]?) h1
      simpa [List.getElem?_take, List.getElem?_drop, List.getElem?_eq_getElem hj] using this
    · rw [List.getElem?_eq_none (by omega), List.getElem?_eq_none (by simp; omega)]
  refine ⟨hz ▸ ho, fun s hs => ?_⟩
  obtain ⟨i, hi, rfl⟩ := List.mem_iff_getElem.1 hs
  exact (he i hi).2
theorem Acc.ofStrCells {T : TypeId} {F : Nat → Prop} {B : Nat} {w : World} {v : Value} {ss : List ByteArray} (ho : w.ownsRow B T 1 v ss.length (ss.map Value.string)) (hz : ∀ s ∈ ss, s.size ≤ 1000000) : Acc RStr 1 T F B w v ss := by
  refine ⟨_, ho, fun i hi => ⟨?_, hz _ (List.getElem_mem hi)⟩⟩
  have hi' : i < (ss.map Value.string).length := by simpa using hi
  rw [Nat.mul_one, List.drop_eq_getElem_cons hi', List.take_succ_cons, List.take_zero, List.getElem_map]
end Go.Proofs.YteanedcfiellkaaDoor
