/- initial, by runes. -/
import Derived.Test.YtbpbhpmkganefaaDoorFk
import Derived.Laws.Cover4
namespace Go.Proofs.YtbpbhpmkganefaaDoor
open Go.RowKit

theorem pieceR_hit {cs : List Nat} {i d : Nat} (h : cs[i]? = some 45) (h2 : cs[i + 1]? = some d) : pieceR cs i = 45 :: (encN d).data.toList := by
  unfold pieceR
  rw [if_pos h]
  have hl := (List.getElem?_eq_some_iff.1 h2)
  rw [List.drop_eq_getElem_cons hl.1, hyph, hl.2]
theorem pieceR_end {cs : List Nat} {i : Nat} (h2 : cs.length ≤ i + 1) : pieceR cs i = [] := by
  unfold pieceR
  split
  · rw [List.drop_of_length_le h2]; rfl
  · rfl
theorem pieceR_miss {cs : List Nat} {i : Nat} (h : ¬ cs[i]? = some 45) : pieceR cs i = [] := by
  unfold pieceR
  rw [if_neg h]
noncomputable def initRTo (cs : List Nat) (i : Nat) : ByteArray := ⟨((encN (cs.headD 0)).data.toList ++ uptoR cs i).toArray⟩
theorem initRTo_zero (cs : List Nat) : initRTo cs 0 = encN (cs.headD 0) := by
  apply ByteArray.ext
  simp [initRTo, uptoR]
theorem initRTo_all {s : ByteArray} {cs : List Nat} (h : Good s.data.toList cs) (hne : s.data.toList ≠ []) : initRTo cs cs.length = initB s := by
  rw [init_runes h hne]
  unfold initRTo encsL
  rw [uptoR_all]
theorem initRTo_hit {cs : List Nat} {i d : Nat} (h : cs[i]? = some 45) (h2 : cs[i + 1]? = some d) : initRTo cs (i + 1) = initRTo cs i ++ (⟨#[45]⟩ ++ encN d) := by
  apply ByteArray.ext
  apply Array.ext'
  simp [initRTo, uptoR, pieceR_hit h h2]
theorem initRTo_same {cs : List Nat} {i : Nat} (h : pieceR cs i = []) : initRTo cs (i + 1) = initRTo cs i := by
  unfold initRTo
  rw [uptoR, h, List.append_nil]
theorem pieceR_len (cs : List Nat) (i : Nat) : (pieceR cs i).length ≤ 5 := by
  unfold pieceR
  split
  · cases hd : cs.drop (i + 1) with
    | nil => simp [hyph]
    | cons d t =>
      have := encode_size_le (d : Int)
      rw [← encN_eq] at this
      rw [Lib.size_eq] at this
      simp only [hyph, List.length_cons]
      omega
  · simp
theorem uptoR_len (cs : List Nat) : ∀ i, (uptoR cs i).length ≤ 5 * i
  | 0 => by simp [uptoR]
  | i + 1 => by
    have h1 := uptoR_len cs i
    have h2 := pieceR_len cs i
    rw [uptoR, List.length_append]
    omega
theorem initRTo_size (cs : List Nat) (i : Nat) : (initRTo cs i).size ≤ 4 + 5 * i := by
  have h1 := encode_size_le (cs.headD 0 : Int)
  rw [← encN_eq] at h1
  have h2 := uptoR_len cs i
  rw [Lib.size_eq] at h1 ⊢
  simp only [initRTo, List.length_append]
  omega
theorem good_len {l : List UInt8} {cs : List Nat} (h : Good l cs) : cs.length ≤ l.length := by
  induction h with
  | nil => simp
  | step h1 _ ih =>
    have := h1.pos
    simp only [List.length_cons, List.length_append]
    omega
theorem foldOne (f : Int → ByteArray) (z : Int) : [z].foldl (fun r n => r ++ f n) ByteArray.empty = f z := by simp
theorem runesOne (z : Int) : runesBytes ([z].take 1) = Utf8.encode z := by
  unfold runesBytes
  exact foldOne Utf8.encode z
set_option maxRecDepth 100000 in
set_option maxHeartbeats 3200000 in
theorem initialR_any (s : ByteArray) (cs : List Nat) (w : World) (hs : s.size ≤ 1000000) (hG : Good s.data.toList cs) (hne : s.data.toList ≠ []) :
    Calls Tryd.prog 25 #[.string s] w fun e w' => e = .returned (.string (initB s)) ∧ All w w' := by
  have hcl : cs.length ≤ 1000000 := by have := good_len hG; rw [← Lib.size_eq] at this; omega
  have HE := Lib.hid (initRTo_all hG hne)
  have hcn : cs ≠ [] := fun e => hne ((good_nil hG).2 e)
  have hcp : 0 < cs.length := List.length_pos_iff.2 hcn
  have hrun := runes_good (s := s) s.size 0 #[] cs (by simpa using hG) (by omega)
  have hconv := run_runes_of_string (P := Tryd.prog) w 9 75 21 s Tryd.underlying9 Tryd.underlying75 Tryd.underlying21 (by rw [hrun]; simp; omega)
  rw [hrun] at hconv
  simp only [Array.empty_append, List.size_toArray, List.length_map] at hconv
  obtain ⟨cp, hcp2⟩ : ∃ c, c = grownCap w cs.length 0 21 := ⟨_, rfl⟩
  have hcap : cs.length ≤ cp := by rw [hcp2]; exact grownCap_ge _ _ _ _
  rw [← hcp2] at hconv
  have hw2 : All w (w.drew.alloc (.cells ((cs.map fun c : Nat => Value.int .i32 (c : Int)).toArray ++ Array.replicate (cp - cs.length) (.int .i32 0)) 21)) := (Kept.drew _ _).then_alloc _
  have hblk := heap_at w.drew (.cells ((cs.map fun c : Nat => Value.int .i32 (c : Int)).toArray ++ Array.replicate (cp - cs.length) (.int .i32 0)) 21) w.heap.size rfl
  have hcell : ∀ (k c : Nat), cs[k]? = some c → (w.drew.alloc (.cells ((cs.map fun c : Nat => Value.int .i32 (c : Int)).toArray ++ Array.replicate (cp - cs.length) (.int .i32 0)) 21)).cell? ⟨w.heap.size, k, none⟩ = some (.int .i32 c) := fun k c hk => by
    refine cell_at hblk ?_
    have hl := (List.getElem?_eq_some_iff.1 hk).1
    rw [Array.getElem?_append_left (by simpa using hl)]
    simp [hk]
  obtain ⟨b, hb⟩ : ∃ b, b = w.heap.size := ⟨_, rfl⟩
  rw [← hb] at hconv hcell
  have HB := Lib.hid hb
  clear hrun hcp2 hblk hb
  generalize w.drew.alloc (.cells ((cs.map fun c : Nat => Value.int .i32 (c : Int)).toArray ++ Array.replicate (cp - cs.length) (.int .i32 0)) 21) = w2 at *
  have hcv : ∀ (k c : Nat) (cap : Nat), cs[k]? = some c → (convert 75 9 (.slice (some ⟨b, k, none⟩) 1 cap)).run Tryd.prog w2 = .ok (.string (encN c)) w2 := fun k c cap hk => by
    have h := run_convert_runes (P := Tryd.prog) w2 75 9 21 ⟨b, k, none⟩ 1 cap [(c : Int)] (Nat.le_refl _) Tryd.underlying75 Tryd.underlying21 Tryd.underlying9 (fun j hj => by
      have h0 : j = 0 := by simpa using hj
      subst h0
      simpa [Addr.add] using hcell k c hk)
    rw [h, encN_eq, runesOne]
  have HCELL := Lib.hid hcell
  have HCV := Lib.hid hcv
  obtain ⟨c0, hc0⟩ : ∃ c0, cs[0]? = some c0 := ⟨_, List.getElem?_eq_getElem hcp⟩
  have hcv0 := hcv 0 c0 cp hc0
  have HZ := Lib.hid (show encN c0 = initRTo cs 0 by
    rw [initRTo_zero]
    cases cs with
    | nil => exact absurd rfl hcn
    | cons c t => simp at hc0; rw [hc0, List.headD_cons])
  have f0 : (1 : Int) ≤ (cp : Int) := by omega
  obtain ⟨n, hn⟩ : ∃ n, n = cs.length := ⟨_, rfl⟩
  have HN := Lib.hid hn
  rw [← hn] at hconv hcap hcl hcp
  clear hcell hcv hG hne hcn hc0 hn
  rw [HZ.out] at hcv0
  generalize hi0 : initRTo cs 0 = i0 at *
  have HI0 := Lib.hid hi0
  clear hi0
  go_enter Tryd.func25, Tryd.ntmps25
  go_wp2_with fail
  go_loopw [4, 13] (fun o i wr => ∃ k : Nat, k ≤ n ∧ i = .int .i64 k ∧ o = .string (initRTo cs k) ∧ wr = w2) (fun _ i _ => n - (intOf i).toNat)
  case atStart => exact ⟨0, Nat.zero_le _, rfl, by rw [HI0.out], rfl⟩
  case round =>
    obtain ⟨k, hk, rfl, rfl, rfl⟩ := hrel
    have hsz := initRTo_size cs k
    obtain ⟨o, ho⟩ : ∃ o, o = initRTo cs k := ⟨_, rfl⟩
    have HO := Lib.hid ho
    rw [← ho] at hsz ⊢
    clear hcv0 hconv ho
    by_cases hlt : k < n
    · obtain ⟨c, hc⟩ : ∃ c, cs[k]? = some c := ⟨_, List.getElem?_eq_getElem (show k < cs.length by have := HN.out; omega)⟩
      have p0 := HCELL.out k c hc
      have f1 : IntKind.i64.wrap ((k : Int) + 1) = ((k + 1 : Nat) : Int) := by rw [IntWalk.i64_in _ (by omega)]; omega
      have f2 : IntKind.i64.wrap ((k : Int) + 2) = ((k + 2 : Nat) : Int) := by rw [IntWalk.i64_in _ (by omega)]; omega
      by_cases h45 : c = 45
      · subst h45
        by_cases hlt2 : k + 1 < n
        · obtain ⟨d, hd⟩ : ∃ d, cs[k + 1]? = some d := ⟨_, List.getElem?_eq_getElem (show k + 1 < cs.length by have := HN.out; omega)⟩
          have d3 : decide (((k + 1 : Nat) : Int) < (n : Int)) = true := by simp; omega
          have g1 := HCV.out (k + 1) d (cp - (k + 1)) hd
          have hz := encode_size_le (d : Int)
          rw [← encN_eq] at hz
          obtain ⟨q, hq⟩ : ∃ q, q = encN d := ⟨_, rfl⟩
          rw [← hq] at g1 hz
          obtain ⟨t1, ht1, hz1, g2⟩ := catRun Tryd.prog ⟨#[45]⟩ q (by have : (⟨#[45]⟩ : ByteArray).size = 1 := rfl; omega)
          obtain ⟨t2, ht2, hz2, g3⟩ := catRun Tryd.prog o t1 (by rw [hz1]; have : (⟨#[45]⟩ : ByteArray).size = 1 := rfl; omega)
          have HT := Lib.hid (show initRTo cs (k + 1) = t2 by rw [initRTo_hit hc hd, ht2, ht1, hq, HO.out])
          have f3 : (0 : Int) ≤ ((k + 1 : Nat) : Int) := by omega
          have f4 : ((k + 1 : Nat) : Int) ≤ ((k + 2 : Nat) : Int) := by omega
          have f5 : ((k + 2 : Nat) : Int) ≤ (cp : Int) := by omega
          clear hc hd hz hq ht1 ht2 hz1 hz2 hsz
          go_wp2_with fail
          go_roundw
          case rel => exact ⟨k + 1, by omega, by go_num, by rw [HT.out], trivial⟩
          case measure => simp [intOf]; omega
        · have d3 : decide (((k + 1 : Nat) : Int) < (n : Int)) = false := by simp; omega
          have HT := Lib.hid (show initRTo cs (k + 1) = o by rw [initRTo_same (pieceR_end (by have := HN.out; omega)), HO.out])
          clear hc hsz
          go_wp2_with fail
          go_roundw
          case rel => exact ⟨k + 1, by omega, by go_num, by rw [HT.out], trivial⟩
          case measure => simp [intOf]; omega
      · have d2 : ((c : Int) == 45) = false := by rw [beq_eq_false_iff_ne]; omega
        have HT := Lib.hid (show initRTo cs (k + 1) = o by rw [initRTo_same (pieceR_miss (by rw [hc]; simpa using h45)), HO.out])
        clear hc hsz h45
        go_wp2_with fail
        go_roundw
        case rel => exact ⟨k + 1, by omega, by go_num, by rw [HT.out], trivial⟩
        case measure => simp [intOf]; omega
    · have hd : decide ((k : Int) < (n : Int)) = false := by simp; omega
      have hke : k = cs.length := by have := HN.out; omega
      have HT := Lib.hid (show o = initB s by rw [HO.out, hke]; exact HE.out)
      clear hke hsz
      go_wp2_with fail
      go_ret
      exact ⟨by rw [HT.out]; rfl, hw2⟩
end Go.Proofs.YtbpbhpmkganefaaDoor
