/- divide and family cut a name at the same word. -/
import Derived.Test.YtbpbhpmkganefaaDoorFl
namespace Go.Proofs.YtbpbhpmkganefaaDoor
open Go.RowKit

/-- Where the family name begins: not ahead of place k. -/
def cutF (ws : List ByteArray) : Nat → Nat
  | 0 => 0
  | k + 1 => if 1 ≤ k ∧ particB (ws.getD k ⟨#[]⟩) = true then cutF ws k else k + 1
def cutN (s : ByteArray) : Nat := cutF (wordsB s) ((wordsB s).length - 1)
theorem cutF_le (ws : List ByteArray) : ∀ k, cutF ws k ≤ k
  | 0 => Nat.le_refl _
  | k + 1 => by
    unfold cutF
    split
    · have := cutF_le ws k; omega
    · exact Nat.le_refl _
theorem cutN_lt (s : ByteArray) : cutN s + 1 ≤ (wordsB s).length := by
  have h1 := cutF_le (wordsB s) ((wordsB s).length - 1)
  have h2 := wordsB_len s
  unfold cutN
  omega
theorem wordsB_many (s : ByteArray) : (wordsB s).length ≤ s.size + 1 := by
  have h := Lib.countB_le sepB (by decide) s.size s (Nat.le_refl _)
  rw [wordsB_len]
  omega
theorem cutF_go {ws : List ByteArray} {k : Nat} (h1 : 1 ≤ k) (h2 : particB (ws.getD k ⟨#[]⟩) = true) : cutF ws (k + 1) = cutF ws k := by rw [cutF, if_pos ⟨h1, h2⟩]
theorem cutF_stop {ws : List ByteArray} {k : Nat} (h2 : ¬ particB (ws.getD k ⟨#[]⟩) = true) : cutF ws (k + 1) = k + 1 := by rw [cutF, if_neg (fun h => h2 h.2)]
theorem cutF_low {ws : List ByteArray} {k : Nat} (h : k ≤ 1) : cutF ws k = k := by
  cases k with
  | zero => rfl
  | succ k => rw [cutF, if_neg (by omega)]

/-- The words of s lie in block b. -/
def WordsAt (s : ByteArray) (b : Nat) (w : World) : Prop := w.heap[b]? = some (.cells ((wordsB s).map Value.string).toArray 9 (0, 0))
theorem WordsAt.cell {s : ByteArray} {b : Nat} {w : World} (h : WordsAt s b w) {j : Nat} {x : ByteArray} (hx : (wordsB s)[j]? = some x) : w.cell? ⟨b, j, none⟩ = some (.string x) := cell_at h (by simp [hx])
theorem WordsAt.keep {s : ByteArray} {b : Nat} {w w' : World} (h : WordsAt s b w) (k : All w w') : WordsAt s b w' := k.heap h trivial

set_option maxRecDepth 100000 in
set_option maxHeartbeats 3200000 in
theorem divide_any (s : ByteArray) (w : World) (hs : s.size ≤ 1000000) (hg : Glob w) :
    Calls Tryd.prog 28 #[.string s] w fun e w' => ∃ b n : Nat, n = (wordsB s).length ∧ e = .returned (.tuple #[.slice (some ⟨b, cutN s, none⟩) (n - cutN s) (n - cutN s), .slice (some ⟨b, 0, none⟩) (cutN s) n]) ∧ WordsAt s b w' ∧ All w w' := by
  obtain ⟨mx, hmx⟩ := hg.most
  have hsp := Tryd.strings_Split s sepB mx w (by omega) hmx (by decide)
  rw [← wordsB_len] at hsp
  have HSP := Lib.hid hsp
  have hk : All w (w.alloc (.cells ((wordsB s).map Value.string).toArray 9)) := Kept.alloc _ _ _
  have hat : WordsAt s w.heap.size (w.alloc (.cells ((wordsB s).map Value.string).toArray 9)) := heap_at _ _ _ rfl
  obtain ⟨n, hn⟩ : ∃ n, n = (wordsB s).length := ⟨_, rfl⟩
  have hn1 : 1 ≤ n := by rw [hn, wordsB_len]; omega
  have hn2 : n ≤ 1000001 := by rw [hn]; have := wordsB_many s; omega
  have HN := Lib.hid hn
  rw [← hn] at HSP
  have HST := Lib.hid (show cutF (wordsB s) (n - 1) = cutN s by rw [hn]; rfl)
  have hcl : cutN s ≤ n := by have := cutN_lt s; omega
  clear hsp hmx hg hn
  obtain ⟨b, hb⟩ : ∃ b, b = w.heap.size := ⟨_, rfl⟩
  have HB := Lib.hid hb
  rw [← hb] at HSP hat
  clear hb
  have f0 : IntKind.i64.wrap ((n : Int) - 1) = ((n - 1 : Nat) : Int) := by rw [IntWalk.i64_in _ (by omega)]; omega
  go_enter Tryd.func28, Tryd.ntmps28
  go_wp2_with fail
  refine HSP.out.mono ?_
  rintro e w1 ⟨rfl, hw1⟩
  change w1 = w.alloc (.cells ((wordsB s).map Value.string).toArray 9) at hw1
  rw [← hw1] at hk hat
  have HAT := Lib.hid hat
  clear hw1 hat
  go_wp2_with fail
  go_loopw [5] (fun i wr => ∃ k : Nat, k + 1 ≤ n ∧ i = .int .i64 k ∧ Hid (cutF (wordsB s) k = cutN s) ∧ wr = w1) (fun i _ => (intOf i).toNat)
  case atStart => exact ⟨n - 1, by omega, rfl, HST, rfl⟩
  case round =>
    obtain ⟨k, hk2, rfl, HK, rfl⟩ := hrel
    by_cases h1 : 1 < k
    · obtain ⟨m, rfl⟩ : ∃ m, k = m + 1 := ⟨k - 1, by omega⟩
      have hml : m < (wordsB s).length := by have := HN.out; omega
      obtain ⟨x, hx⟩ : ∃ x, (wordsB s)[m]? = some x := ⟨_, List.getElem?_eq_getElem hml⟩
      have c0 := HAT.out.cell hx
      have hgd : (wordsB s).getD m ⟨#[]⟩ = x := by rw [List.getD_eq_getElem?_getD, hx]; rfl
      obtain ⟨z, hz⟩ : ∃ z : Int, z = ((m + 1 : Nat) : Int) := ⟨_, rfl⟩
      have HZ := Lib.hid hz
      have d1 : decide ((1 : Int) < z) = true := by simp; omega
      have f1 : IntKind.i64.wrap (z - 1) = (m : Int) := by rw [IntWalk.i64_in _ (by omega)]; omega
      have f2 : (0 : Int) ≤ (m : Int) := by omega
      have f3 : (m : Int) < (n : Int) := by omega
      rw [← hz]
      cases hp : particB x with
      | true =>
        have HK2 := Lib.hid (show cutF (wordsB s) m = cutN s by rw [← HK.out, cutF_go (by omega) (by rw [hgd]; exact hp)])
        have HP := Lib.hid hp
        clear hp hx hgd hz hml
        go_wp2_with fail
        refine (isParticle_any x _).mono ?_
        rintro e w' ⟨rfl, hh⟩
        subst hh
        rw [HP.out]
        go_wp2_with fail
        go_roundw
        case rel => exact ⟨m, by omega, rfl, HK2, trivial⟩
        case measure => simp [intOf]; have := HZ.out; omega
      | false =>
        have HK2 := Lib.hid (show cutN s = m + 1 by rw [← HK.out, cutF_stop (by rw [hgd, hp]; decide)])
        have HP := Lib.hid hp
        have f4 : (0 : Int) ≤ z := by omega
        have f5 : z ≤ (n : Int) := by omega
        clear hp hx hgd hz hml
        go_wp2_with fail
        refine (isParticle_any x _).mono ?_
        rintro e w' ⟨rfl, hh⟩
        subst hh
        rw [HP.out]
        go_wp2_with fail
        rw [HZ.out]
        rw [HZ.out] at f4 f5
        go_quiet (fail)
        go_wp2_with fail
        go_ret2
        exact ⟨b, n, HN.out, by rw [HK2.out]; rfl, HAT.out.keep (Kept.drewN _ _ _), hk.then_drewN _⟩
    · have d1 : decide ((1 : Int) < (k : Int)) = false := by simp; omega
      have HK2 := Lib.hid (show cutN s = k by rw [← HK.out, cutF_low (by omega)])
      have f4 : (0 : Int) ≤ (k : Int) := by omega
      have f5 : (k : Int) ≤ (n : Int) := by omega
      go_wp2_with fail
      go_quiet (fail)
      go_wp2_with fail
      go_ret2
      exact ⟨b, n, HN.out, by rw [HK2.out]; rfl, HAT.out.keep (Kept.drewN _ _ _), hk.then_drewN _⟩

/-- Words with spaces between them. -/
def catW (ws : List ByteArray) : ByteArray := ⟨(Lib.join (ws.map fun p => p.data.toList) sepB.data.toList).toArray⟩
theorem lens_le {m : Nat} : ∀ {ps : List (List UInt8)}, (∀ p ∈ ps, p.length ≤ m) → Lib.lens ps ≤ ps.length * m
  | [], _ => by simp [Lib.lens]
  | p :: ps, h => by
    have h1 := lens_le (ps := ps) (fun q hq => h q (List.mem_cons_of_mem _ hq))
    have h2 := h p (by simp)
    simp only [Lib.lens, List.map_cons, List.sum_cons, List.length_cons] at *
    rw [Nat.add_mul]
    omega
theorem join_le {m : Nat} {ps : List (List UInt8)} (h : ∀ p ∈ ps, p.length ≤ m) : (Lib.join ps sepB.data.toList).length ≤ ps.length * (m + 1) := by
  cases ps with
  | nil => simp [Lib.join_nil]
  | cons x r =>
    have h1 := lens_le h
    have h2 : sepB.data.toList.length = 1 := rfl
    rw [Lib.join_length, h2, Nat.mul_add]
    simp only [List.length_cons] at *
    omega
theorem catW_size {s : ByteArray} {ws : List ByteArray} (hs : s.size ≤ 100) (hsub : ∀ p ∈ ws, p ∈ wordsB s) (hl : ws.length ≤ 101) : (Lib.join (ws.map fun p => p.data.toList) sepB.data.toList).length ≤ 10201 := by
  have h := join_le (m := 100) (ps := ws.map fun p => p.data.toList) (fun q hq => by
    obtain ⟨p, hp, rfl⟩ := List.mem_map.1 hq
    have := wordsB_size (hsub p hp)
    rw [Lib.size_eq] at this
    omega)
  rw [List.length_map] at h
  have h2 : ws.length * (100 + 1) ≤ 101 * 101 := Nat.mul_le_mul hl (Nat.le_refl _)
  omega
/-- Join of a part of the words. -/
theorem joinW_any {s : ByteArray} {b : Nat} (w : World) (hs : s.size ≤ 100) (hat : WordsAt s b w) (o len cap : Nat) (hl : o + len ≤ (wordsB s).length) (hcap : len ≤ cap) :
    Calls Tryd.prog 24 #[.slice (some ⟨b, o, none⟩) len cap, .string sepB] w fun e w' => e = .returned (.string (catW (((wordsB s).drop o).take len))) ∧ All w w' := by
  have hm := wordsB_many s
  have hlen : (((wordsB s).drop o).take len).length = len := by
    rw [List.length_take, List.length_drop]
    omega
  have hbs : b < w.heap.size := (Array.getElem?_eq_some_iff.1 hat).1
  have h := Tryd.strings_Join b o cap (((wordsB s).drop o).take len) sepB w (fun j x hx => by
    have hj : j < len := by have := (List.getElem?_eq_some_iff.1 hx).1; omega
    rw [List.getElem?_take_of_lt hj, List.getElem?_drop] at hx
    exact hat.cell hx) hbs (by omega) (by omega) (by
    have := catW_size hs (ws := ((wordsB s).drop o).take len) (fun p hp => List.mem_of_mem_drop (List.mem_of_mem_take hp)) (by omega)
    omega)
  rw [hlen] at h
  refine h.mono ?_
  rintro e w' ⟨rfl, hw⟩
  exact ⟨rfl, Kept.of_below hw⟩
end Go.Proofs.YtbpbhpmkganefaaDoor
