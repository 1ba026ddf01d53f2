/- The keys of a map, sorted. No program in sight. -/
import Derived.Test.YtllkemadaemjeaaGreatDoorMb
import Derived.Test.YtllkemadaemjeaaGreatDoorQc
import Derived.Test.YtllkemadaemjeaaGreatDoorZd
import Derived.Sort.KeysCollected
import Derived.Sort.Walk0
namespace Go.Proofs.YtllkemadaemjeaaGreatDoor
open Go.RowKit
open Go.Maps (Keyed IsMap)

theorem tl_toList (s : ByteArray) : s.toList = s.data.toList := tl_data s
theorem bl_lt (x y : ByteArray) : Op.bytesLess x.toList y.toList = decide (x.data.toList < y.data.toList) := by
  rw [tl_toList, tl_toList, Go.Proofs.bytesLess_eq]
/-- The strings of a list of byte lists, sorted. -/
def sortL (ss : List (List UInt8)) : List ByteArray := (ss.mergeSort fun x y => decide (x ≤ y)).map fun l => ⟨l.toArray⟩
theorem sortL_len (ss : List (List UInt8)) : (sortL ss).length = ss.length := by simp [sortL]
theorem sortL_mem {ss : List (List UInt8)} {s : ByteArray} : s ∈ sortL ss ↔ s.data.toList ∈ ss := by
  unfold sortL
  rw [List.mem_map]
  constructor
  · rintro ⟨l, hl, rfl⟩
    rw [List.mem_mergeSort] at hl
    exact hl
  · intro h
    exact ⟨s.data.toList, by rw [List.mem_mergeSort]; exact h, by simp⟩
theorem sortL_rises {ss : List (List UInt8)} (hn : ss.Nodup) : (sortL ss).Pairwise fun x y => Op.bytesLess x.toList y.toList = true := by
  unfold sortL
  rw [List.pairwise_map]
  have tr : ∀ a b c : List UInt8, (decide (a ≤ b)) = true → (decide (b ≤ c)) = true → (decide (a ≤ c)) = true := fun a b c h1 h2 => by simp only [decide_eq_true_eq] at *; exact List.le_trans h1 h2
  have tot : ∀ a b : List UInt8, (decide (a ≤ b) || decide (b ≤ a)) = true := fun a b => by simp only [Bool.or_eq_true, decide_eq_true_eq]; exact List.le_total a b
  have h1 := List.pairwise_mergeSort tr tot ss
  have h2 : (ss.mergeSort fun x y => decide (x ≤ y)).Nodup := (List.mergeSort_perm ss _).nodup_iff.2 hn
  refine (h1.and h2).imp fun {a b} hab => ?_
  rw [bl_lt]
  simp only [decide_eq_true_eq]
  have h3 : a ≤ b := by simpa using hab.1
  exact List.not_le.1 fun h4 => hab.2 (List.le_antisymm h3 h4)

theorem Acc.ofStrs {T : TypeId} {F : Nat → Prop} {B : Nat} {w : World} {v : Value} {ss : List ByteArray} (ho : w.ownsRow B T 1 v ss.length (ss.map Value.string)) (hz : ∀ s ∈ ss, s.size ≤ 1000000) : Acc RStr 1 T F B w v ss := by
  refine ⟨_, ho, fun i hi => ⟨?_, hz _ (List.getElem_mem hi)⟩⟩
  have hi' : i < (ss.map Value.string).length := by simpa using hi
  rw [Nat.mul_one, List.drop_eq_getElem_cons hi', List.take_succ_cons, List.take_zero, List.getElem_map]
section
variable {P : Program} {k : TypeId} {w : World} {b n : Nat} {m : ByteArray → Option Value}
/-- What is known of a map's keys, whatever order they come in. -/
theorem MapS.keysOut (h : MapS P k w b n m) (hk : P.underlying k = some .string) :
    ∃ D : DataW Value, w.ownsMap P k heldR b n D ∧ Maps.size D ≤ n ∧ ∀ ss : List (List UInt8), ss.Perm (strKeys D) → ss.length ≤ n ∧ (sortL ss).Pairwise (fun x y => Op.bytesLess x.toList y.toList = true) ∧ ∀ s : ByteArray, s ∈ sortL ss ↔ (m s).isSome = true := by
  obtain ⟨D, h1, h3⟩ := h
  refine ⟨D, h1, h1.size_le, fun ss hp => ?_⟩
  have K : Keyed P k := Go.Maps.string_keyed hk
  obtain ⟨es, hD, hpw, -⟩ := h1.entries K
  obtain ⟨es', hD', hko⟩ := h1.keysOf
  obtain rfl : es = es' := by rw [hD] at hD'; simpa using hD'
  have hstr : ∀ p ∈ es, ∃ x, p.1 = .string x := fun p hp => by
    obtain ⟨v, hv⟩ := hko p hp
    obtain ⟨x, _, hx, _⟩ := Maps.keyOf_str hk hv
    exact ⟨x, hx⟩
  have hnd : (strKeys D).Nodup := by
    rw [hD]
    show (es.map fun p => strOf p.1).Nodup
    refine List.pairwise_map.2 (hpw.imp_of_mem fun {p q} hp' hq' hne e => hne ?_)
    obtain ⟨a, ha⟩ := hstr p hp'
    obtain ⟨b, hb⟩ := hstr q hq'
    rw [ha, hb] at e ⊢
    exact congrArg _ e
  have hmem : ∀ x : List UInt8, x ∈ strKeys D ↔ Maps.has D (.string x) = true := fun x => by
    rw [hD, Go.Maps.has_eq, List.any_eq_true]
    show x ∈ es.map (fun p => strOf p.1) ↔ _
    rw [List.mem_map]
    constructor
    · rintro ⟨p, hp', rfl⟩
      obtain ⟨a, ha⟩ := hstr p hp'
      exact ⟨p, hp', by rw [ha]; simp [Lit.sameKey, strOf]⟩
    · rintro ⟨p, hp', hs⟩
      obtain ⟨a, ha⟩ := hstr p hp'
      rw [ha] at hs
      exact ⟨p, hp', by rw [ha]; simpa [Lit.sameKey, strOf] using hs⟩
  refine ⟨?_, sortL_rises (hp.nodup_iff.2 hnd), fun s => ?_⟩
  · rw [hp.length_eq]
    have hs := h1.size_le
    rw [hD] at hs ⊢
    simpa [strKeys, Maps.size] using hs
  · rw [sortL_mem, hp.mem_iff, hmem, (h3 s).1]
end
end Go.Proofs.YtllkemadaemjeaaGreatDoor
