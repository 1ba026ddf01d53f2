/- The words of a name: what strings.Split leaves of it; its runes. No program in sight. -/
import Derived.Test.YtbpbhpmkganefaaDoorFh
import Derived.Lib.Split
import Derived.Lib.SplitLaws
import Derived.Lib.IndexMore
import Derived.Lib.SlTrimSet
import Derived.Laws.IdiomStrings
namespace Go.Proofs.YtbpbhpmkganefaaDoor
open Go.Lib Go

def sepB : ByteArray := ⟨#[32]⟩
/-- Words, put together again with spaces. -/
def glue : List (List UInt8) → List UInt8
  | [] => []
  | [a] => a
  | a :: b :: l => a ++ 32 :: glue (b :: l)
theorem glue_cons (a : List UInt8) {l : List (List UInt8)} (h : l ≠ []) : glue (a :: l) = a ++ 32 :: glue l := by
  cases l with
  | nil => exact absurd rfl h
  | cons b l => rfl
theorem occ_one {l : List UInt8} {i : Nat} (h : occAt l [32] i = true) : l.drop i = 32 :: l.drop (i + 1) := by
  unfold occAt at h
  cases hd : l.drop i with
  | nil => rw [hd] at h; cases h
  | cons b t =>
    rw [hd] at h
    simp only [List.isPrefixOf, Bool.and_true, beq_iff_eq] at h
    have h2 : l.drop (i + 1) = t := by
      rw [← List.tail_drop, hd]
      rfl
    rw [h2, h]
theorem extract_list (s : ByteArray) (a b : Nat) : (s.extract a b).data.toList = (s.data.toList.drop a).take (b - a) := by
  simp
theorem splitB_ne (sep : ByteArray) (sv : Nat) : ∀ (k : Nat) (s : ByteArray), splitB sep sv k s ≠ []
  | 0, s => by simp [splitB]
  | k + 1, s => by
    unfold splitB
    split <;> simp
theorem words_glue : ∀ (k : Nat) (s : ByteArray), glue ((splitB sepB 0 k s).map fun p => p.data.toList) = s.data.toList
  | 0, s => rfl
  | k + 1, s => by
    rcases index_spec s.data.toList [32] with ⟨h, -⟩ | ⟨i, h, hi, ho, -⟩
    · rw [splitB_miss sepB 0 (k + 1) s h]
      rfl
    · rw [splitB_hit sepB 0 k s i h, List.map_cons, glue_cons _ (by simp [splitB_ne]), words_glue k, extract_list, extract_list]
      have hd := occ_one ho
      have hz : sepB.size = 1 := rfl
      rw [hz, Nat.add_zero, Nat.sub_zero, List.drop_zero]
      have h2 : (s.data.toList.drop (i + 1)).take (s.size - (i + 1)) = s.data.toList.drop (i + 1) := by
        apply List.take_of_length_le
        rw [List.length_drop, size_eq]
        omega
      rw [h2, ← hd, List.take_append_drop]
theorem glue_good : ∀ (ps : List (List UInt8)) (cs : List Nat), Good (glue ps) cs → ∀ p ∈ ps, ∃ c, Good p c
  | [], _, _, p, hp => by simp at hp
  | [a], cs, h, p, hp => by
    have e : p = a := by simpa using hp
    exact ⟨cs, by rw [e]; exact h⟩
  | a :: b :: l, cs, h, p, hp => by
    obtain ⟨c1, c2, g1, g2⟩ := good_split h (a := a) (r := glue (b :: l)) rfl
    rcases List.mem_cons.1 hp with e | e
    · exact ⟨c1, by rw [e]; exact g1⟩
    · exact glue_good (b :: l) c2 g2 p e
theorem glue_ne : ∀ (ps : List (List UInt8)), (∀ t, glue ps ≠ 32 :: t) → (∀ a b, glue ps ≠ a ++ 32 :: 32 :: b) → ∀ (k : Nat) (p : List UInt8), ps[k]? = some p → k + 1 < ps.length → p ≠ []
  | [], _, _, k, p, _, h => by simp at h
  | [a], _, _, k, p, _, h => by simp at h
  | a :: b :: l, h1, h2, k, p, hp, hk => by
    cases k with
    | zero =>
      simp only [List.getElem?_cons_zero, Option.some.injEq] at hp
      rintro rfl
      subst hp
      exact h1 _ rfl
    | succ k =>
      refine glue_ne (b :: l) (fun t e => h2 a t ?_) (fun x y e => h2 (a ++ 32 :: x) y ?_) k p (by simpa using hp) (by simpa using hk)
      · show a ++ 32 :: glue (b :: l) = _
        rw [e]
      · show a ++ 32 :: glue (b :: l) = _
        rw [e]
        simp
/-- A string that is trimmed does not begin with a space. -/
theorem trim_head {l : List UInt8} (h : trimS l [32] = l) : ∀ t, l ≠ 32 :: t := by
  intro t e
  unfold trimS trimLeftS at h
  have h2 := List.head?_dropWhile_not (fun x => [(32 : UInt8)].contains x) (trimRightS l [32])
  rw [h, e] at h2
  simp at h2
/-- A string that does not hold two spaces. -/
theorem no_two {l : List UInt8} (h : contains l [32, 32] = false) : ∀ a b, l ≠ a ++ 32 :: 32 :: b := by
  intro a b e
  unfold contains at h
  rcases index_spec l [32, 32] with ⟨-, hno⟩ | ⟨i, h3, -⟩
  · have h4 := hno a.length (by rw [e]; simp)
    unfold occAt at h4
    rw [e] at h4
    simp at h4
  · rw [h3] at h
    simp at h
def wordsB (s : ByteArray) : List ByteArray := splitB sepB 0 (countB s sepB) s
theorem wordsB_len (s : ByteArray) : (wordsB s).length = countB s sepB + 1 := Lib.splitB_all sepB (by decide) 0 _ s rfl
theorem wordsB_cat (s : ByteArray) : glue ((wordsB s).map fun p => p.data.toList) = s.data.toList := words_glue _ s
theorem wordsB_good {s : ByteArray} (hv : validD s.data.toList = true) : ∀ p ∈ wordsB s, ∃ c, Good p.data.toList c := by
  intro p hp
  obtain ⟨cs, hg⟩ := good_of_valid _ _ (Nat.le_refl _) hv
  rw [← wordsB_cat] at hg
  exact glue_good _ cs hg p.data.toList (List.mem_map.2 ⟨p, hp, rfl⟩)
theorem wordsB_ne {s : ByteArray} (ht : trimS s.data.toList [32] = s.data.toList) (h2 : contains s.data.toList [32, 32] = false) {k : Nat} {p : ByteArray} (hp : (wordsB s)[k]? = some p) (hk : k + 1 < (wordsB s).length) : p.data.toList ≠ [] := by
  refine glue_ne ((wordsB s).map fun p => p.data.toList) ?_ ?_ k _ (by rw [List.getElem?_map, hp]; rfl) (by simpa using hk)
  · rw [wordsB_cat]; exact trim_head ht
  · rw [wordsB_cat]; exact no_two h2
theorem glue_lens : ∀ (ps : List (List UInt8)) (p : List UInt8), p ∈ ps → p.length ≤ (glue ps).length
  | [], p, h => by simp at h
  | [a], p, h => by
    have e : p = a := by simpa using h
    rw [e]; exact Nat.le_refl _
  | a :: b :: l, p, h => by
    show p.length ≤ (a ++ 32 :: glue (b :: l)).length
    simp only [List.length_append, List.length_cons]
    rcases List.mem_cons.1 h with e | e
    · rw [e]; omega
    · have := glue_lens (b :: l) p e
      omega
theorem wordsB_size {s p : ByteArray} (h : p ∈ wordsB s) : p.size ≤ s.size := by
  have := glue_lens ((wordsB s).map fun p => p.data.toList) p.data.toList (List.mem_map.2 ⟨p, h, rfl⟩)
  rw [wordsB_cat] at this
  rwa [size_eq, size_eq]

/-- The runes of a valid string. -/
theorem runes_good {s : ByteArray} : ∀ (bound i : Nat) (acc : Array Value) (cs : List Nat), Good (s.data.toList.drop i) cs → s.size - i ≤ bound → Conv.runesFrom s bound i acc = acc ++ (cs.map fun c : Nat => Value.int .i32 (c : Int)).toArray := by
  intro bound
  induction bound with
  | zero =>
    intro i acc cs h hb
    have he : s.data.toList.drop i = [] := List.drop_of_length_le (by rw [← size_eq]; omega)
    rw [(good_nil h).1 he]
    simp [Conv.runesFrom]
  | succ bound ih =>
    intro i acc cs h hb
    by_cases hi : i < s.size
    · have hne : s.data.toList.drop i ≠ [] := fun e => by
        have := List.drop_eq_nil_iff.1 e
        rw [← size_eq] at this
        omega
      have hcs : cs ≠ [] := fun e => hne ((good_nil h).2 e)
      generalize hl : s.data.toList.drop i = l at h hne
      cases h with
      | nil => exact absurd rfl hne
      | @step block rest c cs' h1 h2 =>
        have hdec : Utf8.decode s i = (c, block.length) := by
          rw [decode_N, ← h1.dec rest, ← hl, decodeL_N, List.length_drop]
          simp [List.getD_eq_getElem?_getD, List.getElem?_drop]
        have hrest : s.data.toList.drop (i + block.length) = rest := by
          rw [← List.drop_drop, hl]
          exact List.drop_left
        have hp := h1.pos
        rw [Conv.runesFrom, if_pos hi, hdec]
        simp only []
        rw [ih _ _ cs' (by rw [hrest]; exact h2) (by omega)]
        simp
    · have he : s.data.toList.drop i = [] := List.drop_of_length_le (by rw [← size_eq]; omega)
      rw [(good_nil h).1 he, Conv.runesFrom, if_neg hi]
      simp
end Go.Proofs.YtbpbhpmkganefaaDoor
