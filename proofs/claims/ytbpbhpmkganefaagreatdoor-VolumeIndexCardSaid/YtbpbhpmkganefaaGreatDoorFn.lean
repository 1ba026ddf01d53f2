/- initial, by runes. -/
import Derived.Test.YtbpbhpmkganefaaGreatDoorFk
import Derived.Laws.Cover4
namespace Go.Proofs.YtbpbhpmkganefaaGreatDoor
open Go.RowKit

theorem pieceR_hit {cs : List Nat} {i d : Nat} (h : cs[i]? = some 45) (h2 : cs[i + 1]? = some d) : pieceR cs i = 45 :: (encN d).data.toList := by
  unfold pieceR
  rw [if_pos h]
  have hl := (List.getElem?_eq_some_iff.1 h2)
  rw [List.drop_eq_getElem_cons hl.1, hyph, hl.2]
theorem pieceR_end {cs : List Nat} {i : Nat} (h2 : cs.length ≤ i + 1) : pieceR cs i = [] := by
  unfold pieceR
  split
  · rw [List.drop_of_length_le h2]; rfl
  · rfl
theorem pieceR_miss {cs : List Nat} {i : Nat} (h : ¬ cs[i]? = some 45) : pieceR cs i = [] := by
  unfold pieceR
  rw [if_neg h]
noncomputable def initRTo (cs : List Nat) (i : Nat) : ByteArray := ⟨((encN (cs.headD 0)).data.toList ++ uptoR cs i).toArray⟩
theorem initRTo_zero (cs : List Nat) : initRTo cs 0 = encN (cs.headD 0) := by
  apply ByteArray.ext
  simp [initRTo, uptoR]
theorem initRTo_all {s : ByteArray} {cs : List Nat} (h : Good s.data.toList cs) (hne : s.data.toList ≠ []) : initRTo cs cs.length = initB s := by
  rw [init_runes h hne]
  unfold initRTo encsL
  rw [uptoR_all]
theorem initRTo_hit {cs : List Nat} {i d : Nat} (h : cs[i]? = some 45) (h2 : cs[i + 1]? = some d) : initRTo cs (i + 1) = initRTo cs i ++ (⟨#[45]⟩ ++ encN d) := by
  apply ByteArray.ext
  apply Array.ext'
  simp [initRTo, uptoR, pieceR_hit h h2]
theorem initRTo_same {cs : List Nat} {i : Nat} (h : pieceR cs i = []) : initRTo cs (i + 1) = initRTo cs i := by
  unfold initRTo
  rw [uptoR, h, List.append_nil]
theorem pieceR_len (cs : List Nat) (i : Nat) : (pieceR cs i).length ≤ 5 := by
  unfold pieceR
  split
  · cases hd : cs.drop (i + 1) with
    | nil => simp [hyph]
    | cons d t =>
      have := encode_size_le (d : Int)
      rw [← encN_eq] at this
      rw [Lib.size_eq] at this
      simp only [hyph, List.length_cons]
      omega
  · simp
theorem uptoR_len (cs : List Nat) : ∀ i, (uptoR cs i).length ≤ 5 * i
  | 0 => by simp [uptoR]
  | i + 1 => by
    have h1 := uptoR_len cs i
    have h2 := pieceR_len cs i
    rw [uptoR, List.length_append]
    omega
theorem initRTo_size (cs : List Nat) (i : Nat) : (initRTo cs i).size ≤ 4 + 5 * i := by
  have h1 := encode_size_le (cs.headD 0 : Int)
  rw [← encN_eq] at h1
  have h2 := uptoR_len cs i
  rw [Lib.size_eq] at h1 ⊢
  simp only [initRTo, List.length_append]
  omega
theorem good_len {l : List UInt8} {cs : List Nat} (h : Good l cs) : cs.length ≤ l.length := by
  induction h with
  | nil => simp
  | step h1 _ ih =>
    have := h1.pos
    simp only [List.length_cons, List.length_append]
    omega
theorem foldOne (f : Int → ByteArray) (z : Int) : [z].foldl (fun r n => r ++ f n) ByteArray.empty = f z := by simp
theorem runesOne (z : Int) : runesBytes ([z].take 1) = Utf8.encode z := by
  unfold runesBytes
  exact foldOne Utf8.encode z
set_option maxRecDepth 100000 in
set_option maxHeartbeats 3200000 in
theorem initialR_any (s : ByteArray) (cs : List Nat) (w : World) (hs : s.size ≤ 1000000) (hG : Good s.data.toList cs) (hne : s.data.toList ≠ []) :
    Calls Tryz.prog 73 #[.string s] w fun e w' => e = .returned (.string (initB s)) ∧ All w w' := by
  have hcl : cs.length ≤ 1000000 := by have := good_len hG; rw [← Lib.size_eq] at this; omega
  have HE := Lib.hid (initRTo_all hG hne)
  have hcn : cs ≠ [] := fun e => hne ((good_nil hG).2 e)
  have hcp : 0 < cs.length := List.length_pos_iff.2 hcn
  have hrun := runes_good (s := s) s.size 0 #[] cs (by simpa using hG) (by omega)
  have hconv := run_runes_of_string (P := Tryz.prog) w 9 136 21 s Tryz.underlying9 Tryz.underlying136 Tryz.underlying21 (by rw [hrun]; simp; omega)
  rw [hrun] at hconv
  simp only [Array.empty_append, List.size_toArray, List.length_map] at hconv
  obtain ⟨cp, hcp2⟩ : ∃ c, c = grownCap w cs.length 0 21 := ⟨_, rfl⟩
  have hcap : cs.length ≤ cp := by rw [hcp2]; exact grownCap_ge _ _ _ _
  rw [← hcp2] at hconv
  have hw2 : All w (w.drew.alloc (.cells ((cs.map fun c : Nat => Value.int .i32 (c : Int)).toArray ++ Array.replicate (cp - cs.length) (.int .i32 0)) 21)) := (Kept.drew _ _).then_alloc _
  have hblk := heap_at w.drew (.cells ((cs.map fun c : Nat => Value.int .i32 (c : Int)).toArray ++ Array.replicate (cp - cs.length) (.int .i32 0)) 21) w.heap.size rfl
  have hcell : ∀ (k c : Nat), cs[k]? = some c → (w.drew.alloc (.cells ((cs.map fun c : Nat => Value.int .i32 (c : Int)).toArray ++ Array.replicate (cp - cs.length) (.int .i32 0)) 21)).cell? ⟨w.heap.size, k, none⟩ = some (.int .i32 c) := fun k c hk => by
    refine cell_at hblk ?_
    have hl := (List.getElem?_eq_some_iff.1 hk).1
    rw [Array.getElem?_append_left (by simpa using hl)]
    simp [hk]
  obtain ⟨b, hb⟩ : ∃ b, b = w.heap.size := ⟨_, rfl⟩
  rw [← hb] at hconv hcell
  have HB := Lib.hid hb
  clear hrun hcp2 hblk hb
  generalize w.drew.alloc (.cells ((cs.map fun c : Nat => Value.int .i32 (c : Int)).toArray ++ Array.replicate (cp - cs.length) (.int .i32 0)) 21) = w2 at *
  have hcv : ∀ (k c : Nat) (cap : Nat), cs[k]? = some c → (convert 136 9 (.slice (some ⟨b, k, none⟩) 1 cap)).run Tryz.prog w2 = .ok (.string (encN c)) w2 := fun k c cap hk => by
    have h := run_convert_runes (P := Tryz.prog) w2 136 9 21 ⟨b, k, none⟩ 1 cap [(c : Int)] (Nat.le_refl _) Tryz.underlying136 Tryz.underlying21 Tryz.underlying9 (fun j hj => by
      have h0 : j = 0 := by simpa using hj
      subst h0
      simpa [Addr.add] using hcell k c hk)
    rw [h, encN_eq, runesOne]
  have HCELL := Lib.hid hcell
  have HCV := Lib.hid hcv
  obtain ⟨c0, hc0⟩ : ∃ c0, cs[0]? = some c0 := ⟨_, List.getElem?_eq_getElem hcp⟩
  have hcv0 := hcv 0 c0 cp hc0
  have HZ := Lib.hid (show encN c0 = initRTo cs 0 by
    rw [initRTo_zero]
    cases cs with
    | nil => exact absurd rfl hcn
    | cons c t => simp at hc0; rw [hc0, List.headD_cons])
  have f0 : (1 : Int) ≤ (cp : Int) := by omega
  obtain ⟨n, hn⟩ : ∃ n, n = cs.length := ⟨_, rfl⟩
  have HN := Lib.hid hn
  rw [← hn] at hconv hcap hcl hcp
  clear hcell hcv hG hne hcn hc0 hn
  rw [HZ.out] at hcv0
  generalize hi0 : initRTo cs 0 = i0 at *
  have HI0 := Lib.hid hi0
  clear hi0
  go_enter Tryz.func73, Tryz.ntmps73
  go_wp2_with fail
  go_loopw [4, 13] (fun o i wr => ∃ k : Nat, k ≤ n ∧ i = .int .i64 k ∧ o = .string (initRTo cs k) ∧ wr = w2) (fun _ i _ => n - (intOf i).toNat)
  case atStart => exact ⟨0, Nat.zero_le _, rfl, by rw [HI0.out], rfl⟩
  case round =>
    obtain ⟨k, hk, rfl, rfl, rfl⟩ := hrel
    have hsz := initRTo_size cs k
    obtain ⟨o, ho⟩ : ∃ o, o = initRTo cs k := ⟨_, rfl⟩
    have HO := Lib.hid ho
    rw [← ho] at hsz ⊢
    clear hcv0 hconv ho
    by_cases hlt : k < n
    · obtain ⟨c, hc⟩ : ∃ c, cs[k]? = some c := ⟨_, List.getElem?_eq_getElem (show k < cs.length by have := HN.out; omega)⟩
      have p0 := HCELL.out k c hc
      have f1 : IntKind.i64.wrap ((k : Int) + 1) = ((k + 1 : Nat) : Int) := by rw [IntWalk.i64_in _ (by omega)]; omega
      have f2 : IntKind.i64.wrap ((k : Int) + 2) = ((k + 2 : Nat) : Int) := by rw [IntWalk.i64_in _ (by omega)]; omega
      by_cases h45 : c = 45
      · subst h45
        by_cases hlt2 : k + 1 < n
        · obtain ⟨d, hd⟩ : ∃ d, cs[k + 1]? = some d := ⟨_, List.getElem?_eq_getElem (show k + 1 < cs.length by have := HN.out; omega)⟩
          have d3 : decide (((k + 1 : Nat) : Int) < (n : Int)) = true := by simp; omega
          have g1 := HCV.out (k + 1) d (cp - (k + 1)) hd
          have hz := encode_size_le (d : Int)
          rw [← encN_eq] at hz
          obtain ⟨q, hq⟩ : ∃ q, q = encN d := ⟨_, rfl⟩
          rw [← hq] at g1 hz
          obtain ⟨t1, ht1, hz1, g2⟩ := catRun Tryz.prog ⟨#[45]⟩ q (by have : (⟨#[45]⟩ : ByteArray).size = 1 := rfl; omega)
          obtain ⟨t2, ht2, hz2, g3⟩ := catRun Tryz.prog o t1 (by rw [hz1]; have : (⟨#[45]⟩ : ByteArray).size = 1 := rfl; omega)
          have HT := Lib.hid (show initRTo cs (k + 1) = t2 by rw [initRTo_hit hc hd, ht2, ht1, hq, HO.out])
          have f3 : (0 : Int) ≤ ((k + 1 : Nat) : Int) := by omega
          have f4 : ((k + 1 : Nat) : Int) ≤ ((k + 2 : Nat) : Int) := by omega
          have f5 : ((k + 2 : Nat) : Int) ≤ (cp : Int) := by omega
          clear hc hd hz hq ht1 ht2 hz1 hz2 hsz
          go_wp2_with fail
          go_roundw
          case rel => exact ⟨k + 1, by omega, by go_num, by rw [HT.out], trivial⟩
          case measure => simp [intOf]; omega
        · have d3 : decide (((k + 1 : Nat) : Int) < (n : Int)) = false := by simp; omega
          have HT := Lib.hid (show initRTo cs (k + 1) = o by rw [initRTo_same (pieceR_end (by have := HN.out; omega)), HO.out])
          clear hc hsz
          go_wp2_with fail
          go_roundw
          case rel => exact ⟨k + 1, by omega, by go_num, by rw [HT.out], trivial⟩
          case measure => simp [intOf]; omega
      · have d2 : ((c : Int) == 45) = false := by rw [beq_eq_false_iff_ne]; omega
        have HT := Lib.hid (show initRTo cs (k + 1) = o by rw [initRTo_same (pieceR_miss (by rw [hc]; simpa using h45)), HO.out])
        clear hc hsz h45
        go_wp2_with fail
        go_roundw
        case rel => exact ⟨k + 1, by omega, by go_num, by rw [HT.out], trivial⟩
        case measure => simp [intOf]; omega
    · have hd : decide ((k : Int) < (n : Int)) = false := by simp; omega
      have hke : k = cs.length := by have := HN.out; omega
      have HT := Lib.hid (show o = initB s by rw [HO.out, hke]; exact HE.out)
      clear hke hsz
      go_wp2_with fail
      go_ret
      exact ⟨by rw [HT.out]; rfl, hw2⟩
end Go.Proofs.YtbpbhpmkganefaaGreatDoor

/- divide and family cut a name at the same word. -/
namespace Go.Proofs.YtbpbhpmkganefaaGreatDoor
open Go.RowKit

/-- Where the family name begins: not ahead of place k. -/
def cutF (ws : List ByteArray) : Nat → Nat
  | 0 => 0
  | k + 1 => if 1 ≤ k ∧ particB (ws.getD k ⟨#[]⟩) = true then cutF ws k else k + 1
def cutN (s : ByteArray) : Nat := cutF (wordsB s) ((wordsB s).length - 1)
theorem cutF_le (ws : List ByteArray) : ∀ k, cutF ws k ≤ k
  | 0 => Nat.le_refl _
  | k + 1 => by
    unfold cutF
    split
    · have := cutF_le ws k; omega
    · exact Nat.le_refl _
theorem cutN_lt (s : ByteArray) : cutN s + 1 ≤ (wordsB s).length := by
  have h1 := cutF_le (wordsB s) ((wordsB s).length - 1)
  have h2 := wordsB_len s
  unfold cutN
  omega
theorem wordsB_many (s : ByteArray) : (wordsB s).length ≤ s.size + 1 := by
  have h := Lib.countB_le sepB (by decide) s.size s (Nat.le_refl _)
  rw [wordsB_len]
  omega
theorem cutF_go {ws : List ByteArray} {k : Nat} (h1 : 1 ≤ k) (h2 : particB (ws.getD k ⟨#[]⟩) = true) : cutF ws (k + 1) = cutF ws k := by rw [cutF, if_pos ⟨h1, h2⟩]
theorem cutF_stop {ws : List ByteArray} {k : Nat} (h2 : ¬ particB (ws.getD k ⟨#[]⟩) = true) : cutF ws (k + 1) = k + 1 := by rw [cutF, if_neg (fun h => h2 h.2)]
theorem cutF_low {ws : List ByteArray} {k : Nat} (h : k ≤ 1) : cutF ws k = k := by
  cases k with
  | zero => rfl
  | succ k => rw [cutF, if_neg (by omega)]

/-- The words of s lie in block b. -/
def WordsAt (s : ByteArray) (b : Nat) (w : World) : Prop := w.heap[b]? = some (.cells ((wordsB s).map Value.string).toArray 9 (0, 0))
theorem WordsAt.cell {s : ByteArray} {b : Nat} {w : World} (h : WordsAt s b w) {j : Nat} {x : ByteArray} (hx : (wordsB s)[j]? = some x) : w.cell? ⟨b, j, none⟩ = some (.string x) := cell_at h (by simp [hx])
theorem WordsAt.keep {s : ByteArray} {b : Nat} {w w' : World} (h : WordsAt s b w) (k : All w w') : WordsAt s b w' := k.heap h trivial

set_option maxRecDepth 100000 in
set_option maxHeartbeats 3200000 in
theorem divide_any (s : ByteArray) (w : World) (hs : s.size ≤ 1000000) (hg : Glob w) :
    Calls Tryz.prog 59 #[.string s] w fun e w' => ∃ b n : Nat, n = (wordsB s).length ∧ e = .returned (.tuple #[.slice (some ⟨b, cutN s, none⟩) (n - cutN s) (n - cutN s), .slice (some ⟨b, 0, none⟩) (cutN s) n]) ∧ WordsAt s b w' ∧ All w w' := by
  obtain ⟨mx, hmx⟩ := hg.most
  have hsp := Tryz.strings_Split s sepB mx w (by omega) hmx (by decide)
  rw [← wordsB_len] at hsp
  have HSP := Lib.hid hsp
  have hk : All w (w.alloc (.cells ((wordsB s).map Value.string).toArray 9)) := Kept.alloc _ _ _
  have hat : WordsAt s w.heap.size (w.alloc (.cells ((wordsB s).map Value.string).toArray 9)) := heap_at _ _ _ rfl
  obtain ⟨n, hn⟩ : ∃ n, n = (wordsB s).length := ⟨_, rfl⟩
  have hn1 : 1 ≤ n := by rw [hn, wordsB_len]; omega
  have hn2 : n ≤ 1000001 := by rw [hn]; have := wordsB_many s; omega
  have HN := Lib.hid hn
  rw [← hn] at HSP
  have HST := Lib.hid (show cutF (wordsB s) (n - 1) = cutN s by rw [hn]; rfl)
  have hcl : cutN s ≤ n := by have := cutN_lt s; omega
  clear hsp hmx hg hn
  obtain ⟨b, hb⟩ : ∃ b, b = w.heap.size := ⟨_, rfl⟩
  have HB := Lib.hid hb
  rw [← hb] at HSP hat
  clear hb
  have f0 : IntKind.i64.wrap ((n : Int) - 1) = ((n - 1 : Nat) : Int) := by rw [IntWalk.i64_in _ (by omega)]; omega
  go_enter Tryz.func59, Tryz.ntmps59
  go_wp2_with fail
  refine HSP.out.mono ?_
  rintro e w1 ⟨rfl, hw1⟩
  change w1 = w.alloc (.cells ((wordsB s).map Value.string).toArray 9) at hw1
  rw [← hw1] at hk hat
  have HAT := Lib.hid hat
  clear hw1 hat
  go_wp2_with fail
  go_loopw [5] (fun i wr => ∃ k : Nat, k + 1 ≤ n ∧ i = .int .i64 k ∧ Hid (cutF (wordsB s) k = cutN s) ∧ wr = w1) (fun i _ => (intOf i).toNat)
  case atStart => exact ⟨n - 1, by omega, rfl, HST, rfl⟩
  case round =>
    obtain ⟨k, hk2, rfl, HK, rfl⟩ := hrel
    by_cases h1 : 1 < k
    · obtain ⟨m, rfl⟩ : ∃ m, k = m + 1 := ⟨k - 1, by omega⟩
      have hml : m < (wordsB s).length := by have := HN.out; omega
      obtain ⟨x, hx⟩ : ∃ x, (wordsB s)[m]? = some x := ⟨_, List.getElem?_eq_getElem hml⟩
      have c0 := HAT.out.cell hx
      have hgd : (wordsB s).getD m ⟨#[]⟩ = x := by rw [List.getD_eq_getElem?_getD, hx]; rfl
      obtain ⟨z, hz⟩ : ∃ z : Int, z = ((m + 1 : Nat) : Int) := ⟨_, rfl⟩
      have HZ := Lib.hid hz
      have d1 : decide ((1 : Int) < z) = true := by simp; omega
      have f1 : IntKind.i64.wrap (z - 1) = (m : Int) := by rw [IntWalk.i64_in _ (by omega)]; omega
      have f2 : (0 : Int) ≤ (m : Int) := by omega
      have f3 : (m : Int) < (n : Int) := by omega
      rw [← hz]
      cases hp : particB x with
      | true =>
        have HK2 := Lib.hid (show cutF (wordsB s) m = cutN s by rw [← HK.out, cutF_go (by omega) (by rw [hgd]; exact hp)])
        have HP := Lib.hid hp
        clear hp hx hgd hz hml
        go_wp2_with fail
        refine (isParticle_any x _).mono ?_
        rintro e w' ⟨rfl, hh⟩
        subst hh
        rw [HP.out]
        go_wp2_with fail
        go_roundw
        case rel => exact ⟨m, by omega, rfl, HK2, trivial⟩
        case measure => simp [intOf]; have := HZ.out; omega
      | false =>
        have HK2 := Lib.hid (show cutN s = m + 1 by rw [← HK.out, cutF_stop (by rw [hgd, hp]; decide)])
        have HP := Lib.hid hp
        have f4 : (0 : Int) ≤ z := by omega
        have f5 : z ≤ (n : Int) := by omega
        clear hp hx hgd hz hml
        go_wp2_with fail
        refine (isParticle_any x _).mono ?_
        rintro e w' ⟨rfl, hh⟩
        subst hh
        rw [HP.out]
        go_wp2_with fail
        rw [HZ.out]
        rw [HZ.out] at f4 f5
        go_quiet (fail)
        go_wp2_with fail
        go_ret2
        exact ⟨b, n, HN.out, by rw [HK2.out]; rfl, HAT.out.keep (Kept.drewN _ _ _), hk.then_drewN _⟩
    · have d1 : decide ((1 : Int) < (k : Int)) = false := by simp; omega
      have HK2 := Lib.hid (show cutN s = k by rw [← HK.out, cutF_low (by omega)])
      have f4 : (0 : Int) ≤ (k : Int) := by omega
      have f5 : (k : Int) ≤ (n : Int) := by omega
      go_wp2_with fail
      go_quiet (fail)
      go_wp2_with fail
      go_ret2
      exact ⟨b, n, HN.out, by rw [HK2.out]; rfl, HAT.out.keep (Kept.drewN _ _ _), hk.then_drewN _⟩

/-- Words with spaces between them. -/
def catW (ws : List ByteArray) : ByteArray := ⟨(Lib.join (ws.map fun p => p.data.toList) sepB.data.toList).toArray⟩
theorem lens_le {m : Nat} : ∀ {ps : List (List UInt8)}, (∀ p ∈ ps, p.length ≤ m) → Lib.lens ps ≤ ps.length * m
  | [], _ => by simp [Lib.lens]
  | p :: ps, h => by
    have h1 := lens_le (ps := ps) (fun q hq => h q (List.mem_cons_of_mem _ hq))
    have h2 := h p (by simp)
    simp only [Lib.lens, List.map_cons, List.sum_cons, List.length_cons] at *
    rw [Nat.add_mul]
    omega
theorem join_le {m : Nat} {ps : List (List UInt8)} (h : ∀ p ∈ ps, p.length ≤ m) : (Lib.join ps sepB.data.toList).length ≤ ps.length * (m + 1) := by
  cases ps with
  | nil => simp [Lib.join_nil]
  | cons x r =>
    have h1 := lens_le h
    have h2 : sepB.data.toList.length = 1 := rfl
    rw [Lib.join_length, h2, Nat.mul_add]
    simp only [List.length_cons] at *
    omega
theorem catW_size {s : ByteArray} {ws : List ByteArray} (hs : s.size ≤ 100) (hsub : ∀ p ∈ ws, p ∈ wordsB s) (hl : ws.length ≤ 101) : (Lib.join (ws.map fun p => p.data.toList) sepB.data.toList).length ≤ 10201 := by
  have h := join_le (m := 100) (ps := ws.map fun p => p.data.toList) (fun q hq => by
    obtain ⟨p, hp, rfl⟩ := List.mem_map.1 hq
    have := wordsB_size (hsub p hp)
    rw [Lib.size_eq] at this
    omega)
  rw [List.length_map] at h
  have h2 : ws.length * (100 + 1) ≤ 101 * 101 := Nat.mul_le_mul hl (Nat.le_refl _)
  omega
/-- Join of a part of the words. -/
theorem joinW_any {s : ByteArray} {b : Nat} (w : World) (hs : s.size ≤ 100) (hat : WordsAt s b w) (o len cap : Nat) (hl : o + len ≤ (wordsB s).length) (hcap : len ≤ cap) :
    Calls Tryz.prog 43 #[.slice (some ⟨b, o, none⟩) len cap, .string sepB] w fun e w' => e = .returned (.string (catW (((wordsB s).drop o).take len))) ∧ All w w' := by
  have hm := wordsB_many s
  have hlen : (((wordsB s).drop o).take len).length = len := by
    rw [List.length_take, List.length_drop]
    omega
  have hbs : b < w.heap.size := (Array.getElem?_eq_some_iff.1 hat).1
  have h := Tryz.strings_Join b o cap (((wordsB s).drop o).take len) sepB w (fun j x hx => by
    have hj : j < len := by have := (List.getElem?_eq_some_iff.1 hx).1; omega
    rw [List.getElem?_take_of_lt hj, List.getElem?_drop] at hx
    exact hat.cell hx) hbs (by omega) (by omega) (by
    have := catW_size hs (ws := ((wordsB s).drop o).take len) (fun p hp => List.mem_of_mem_drop (List.mem_of_mem_take hp)) (by omega)
    omega)
  rw [hlen] at h
  refine h.mono ?_
  rintro e w' ⟨rfl, hw⟩
  exact ⟨rfl, Kept.of_below hw⟩
end Go.Proofs.YtbpbhpmkganefaaGreatDoor

/- SortName and Initials. -/
namespace Go.Proofs.YtbpbhpmkganefaaGreatDoor
open Go.RowKit

def famB (s : ByteArray) : ByteArray := catW (((wordsB s).drop (cutN s)).take ((wordsB s).length - cutN s))
def othB (s : ByteArray) : ByteArray := catW (((wordsB s).drop 0).take (cutN s))
/-- The family name first. -/
def sortB (s : ByteArray) : ByteArray := if 0 < cutN s then famB s ++ (⟨#[44, 32]⟩ ++ othB s) else famB s
/-- The initials of the first k words. -/
def initsTo (s : ByteArray) : Nat → ByteArray
  | 0 => ⟨#[]⟩
  | k + 1 => initsTo s k ++ (initB ((wordsB s).getD k ⟨#[]⟩) ++ ⟨#[46, 32]⟩)
def initsB (s : ByteArray) : ByteArray := initsTo s (cutN s) ++ famB s
theorem famB_size {s : ByteArray} (hs : s.size ≤ 100) : (famB s).size ≤ 10201 := by
  have hm := wordsB_many s
  rw [Lib.size_eq]
  refine catW_size hs (fun p hp => List.mem_of_mem_drop (List.mem_of_mem_take hp)) ?_
  rw [List.length_take, List.length_drop]
  omega
theorem othB_size {s : ByteArray} (hs : s.size ≤ 100) : (othB s).size ≤ 10201 := by
  have hm := wordsB_many s
  have hc := cutN_lt s
  rw [Lib.size_eq]
  refine catW_size hs (fun p hp => List.mem_of_mem_drop (List.mem_of_mem_take hp)) ?_
  rw [List.length_take, List.length_drop]
  omega
theorem initB_size (w : ByteArray) : (initB w).size ≤ 4 + 5 * w.size := by
  rw [← initTo_all]
  have := initTo_size w (w.size - 1)
  omega
theorem initsTo_size {s : ByteArray} (hs : s.size ≤ 100) : ∀ k, k ≤ (wordsB s).length → (initsTo s k).size ≤ 506 * k
  | 0, _ => by
    show (⟨#[]⟩ : ByteArray).size ≤ _
    have : (⟨#[]⟩ : ByteArray).size = 0 := rfl
    omega
  | k + 1, h => by
    have h1 := initsTo_size hs k (by omega)
    have h2 : ((wordsB s).getD k ⟨#[]⟩).size ≤ 100 := by
      rw [List.getD_eq_getElem?_getD, List.getElem?_eq_getElem (show k < _ by omega)]
      have := wordsB_size (List.getElem_mem (show k < (wordsB s).length by omega))
      simp only [Option.getD_some]
      omega
    have h3 := initB_size ((wordsB s).getD k ⟨#[]⟩)
    rw [initsTo, ByteArray.size_append, ByteArray.size_append]
    have : (⟨#[46, 32]⟩ : ByteArray).size = 2 := rfl
    omega

set_option maxRecDepth 100000 in
set_option maxHeartbeats 3200000 in
theorem sortName_any (s : ByteArray) (w : World) (hs : s.size ≤ 100) (hg : Glob w) :
    Calls Tryz.prog 26 #[.string s] w fun e w' => e = .returned (.string (sortB s)) ∧ All w w' := by
  have HD := Lib.hid (divide_any s w (by omega) hg)
  have hc := cutN_lt s
  have HF := Lib.hid (famB_size hs)
  have HO := Lib.hid (othB_size hs)
  obtain ⟨cn, hcn⟩ : ∃ c, c = cutN s := ⟨_, rfl⟩
  have HC := Lib.hid hcn
  obtain ⟨r, hr⟩ : ∃ r, r = sortB s := ⟨_, rfl⟩
  have HR := Lib.hid hr
  rw [← hr]
  clear hg hr
  go_enter Tryz.func26, Tryz.ntmps26
  go_wp2_with fail
  refine HD.out.mono ?_
  rintro e w1 ⟨b, n, hn, rfl, hat, hw1⟩
  obtain ⟨fm, hfm⟩ : ∃ f, f = famB s := ⟨_, rfl⟩
  obtain ⟨ot, hot⟩ : ∃ f, f = othB s := ⟨_, rfl⟩
  have HJ1 := Lib.hid (fun (wx : World) (k : All w1 wx) => (show Calls Tryz.prog 43 #[.slice (some ⟨b, cutN s, none⟩) (n - cutN s) (n - cutN s), .string sepB] wx fun e w' => e = .returned (.string fm) ∧ All wx w' by
    have h := joinW_any (s := s) wx hs (hat.keep k) (cutN s) (n - cutN s) (n - cutN s) (by omega) (Nat.le_refl _)
    rw [hfm, famB, ← hn]
    exact h))
  have HJ2 := Lib.hid (fun (wx : World) (k : All w1 wx) => (show Calls Tryz.prog 43 #[.slice (some ⟨b, 0, none⟩) (cutN s) n, .string sepB] wx fun e w' => e = .returned (.string ot) ∧ All wx w' by
    have h := joinW_any (s := s) wx hs (hat.keep k) 0 (cutN s) n (by omega) (by omega)
    rw [hot, othB]
    exact h))
  rw [← hcn] at HJ1 HJ2 hc ⊢
  have hzf : fm.size ≤ 10201 := by rw [hfm]; exact HF.out
  have hzo : ot.size ≤ 10201 := by rw [hot]; exact HO.out
  have HS1 := Lib.hid (show 0 < cn → sortB s = fm ++ (⟨#[44, 32]⟩ ++ ot) from fun h => by rw [sortB, if_pos (by rw [← hcn]; exact h), hfm, hot])
  have HS0 := Lib.hid (show ¬ 0 < cn → sortB s = fm from fun h => by rw [sortB, if_neg (by rw [← hcn]; exact h), hfm])
  have h2s : (⟨#[44, 32]⟩ : ByteArray).size = 2 := rfl
  obtain ⟨t1, ht1, hz1, g1⟩ := catRun Tryz.prog ⟨#[44, 32]⟩ ot (by omega)
  obtain ⟨t2, ht2, hz2, g2⟩ := catRun Tryz.prog fm t1 (by omega)
  have HT2 := Lib.hid (show t2 = fm ++ (⟨#[44, 32]⟩ ++ ot) by rw [ht2, ht1])
  clear hn hat HD hfm hot hcn ht1 ht2 hz1 hz2 hzf hzo h2s HF HO
  rw [← HR.out] at HS1 HS0
  go_wp2_with fail
  refine (HJ1.out _ (Kept.refl _ _)).mono ?_
  rintro e w2 ⟨rfl, hw2⟩
  by_cases h0 : 0 < cn
  · have d1 : decide ((0 : Int) < (cn : Int)) = true := by simp; omega
    have HT := Lib.hid (show r = t2 by rw [HS1.out h0, HT2.out])
    go_wp2_with fail
    refine (HJ2.out _ hw2).mono ?_
    rintro e w3 ⟨rfl, hw3⟩
    go_wp2_with fail
    go_ret
    exact ⟨by rw [HT.out]; rfl, (hw1.trans hw2).trans hw3⟩
  · have d1 : decide ((0 : Int) < (cn : Int)) = false := by simp; omega
    have HT := Lib.hid (HS0.out h0)
    go_wp2_with fail
    go_ret
    exact ⟨by rw [HT.out]; rfl, hw1.trans hw2⟩

/-- What SortName and Initials answer. -/
def NamePost (ok : Bool) (t : ByteArray) (w : World) (e : Ending) (w' : World) : Prop := e = .returned (.tuple #[.string (if ok = true then t else ⟨#[]⟩), .int .i64 (if ok = true then 0 else 3)]) ∧ All w w'
theorem lineB_small {s : ByteArray} (h : lineB s 100 = true) : s.size ≤ 100 := by
  unfold lineB at h
  simp at h
  omega

set_option maxRecDepth 100000 in
set_option maxHeartbeats 3200000 in
theorem initials_any (s : ByteArray) (w : World) (hs : s.size ≤ 100) (hg : Glob w) :
    Calls Tryz.prog 34 #[.string s] w fun e w' => e = .returned (.string (initsB s)) ∧ All w w' := by
  have HD := Lib.hid (divide_any s w (by omega) hg)
  have hc := cutN_lt s
  have hmany := wordsB_many s
  have HF := Lib.hid (famB_size hs)
  have HG := Lib.hid hg
  obtain ⟨cn, hcn⟩ : ∃ c, c = cutN s := ⟨_, rfl⟩
  have HC := Lib.hid hcn
  clear hg
  go_enter Tryz.func34, Tryz.ntmps34
  go_wp2_with fail
  refine HD.out.mono ?_
  rintro e w1 ⟨b, n, hn, rfl, hat, hw1⟩
  have HJ1 := Lib.hid (fun (wx : World) (k : All w1 wx) => joinW_any (s := s) wx hs (hat.keep k) (cutN s) (n - cutN s) (n - cutN s) (by omega) (Nat.le_refl _))
  have HE1 := Lib.hid (show catW (((wordsB s).drop (cutN s)).take (n - cutN s)) = famB s by rw [hn]; rfl)
  have HAT := Lib.hid hat
  have HN := Lib.hid hn
  rw [← hcn] at HJ1 HE1 hc ⊢
  have hcs : cn ≤ 101 := by omega
  clear hn hat HD hcn
  go_wp2_with fail
  go_loopw [5, 15] (fun o i wr => ∃ k : Nat, k ≤ cn ∧ i = .int .i64 k ∧ o = .string (initsTo s k) ∧ All w1 wr) (fun _ i _ => cn - (intOf i).toNat)
  case atStart => exact ⟨0, Nat.zero_le _, rfl, rfl, Kept.refl _ _⟩
  case round =>
    obtain ⟨k, hk, rfl, rfl, hwr⟩ := hrel
    obtain ⟨wo, rfl⟩ : ∃ wo : World, wo = wr := ⟨_, rfl⟩
    have hsz := initsTo_size hs k (by omega)
    obtain ⟨o, ho⟩ : ∃ o, o = initsTo s k := ⟨_, rfl⟩
    have HO := Lib.hid ho
    rw [← ho] at hsz ⊢
    clear ho
    by_cases hlt : k < cn
    · have hml : k < (wordsB s).length := by omega
      obtain ⟨x, hx⟩ : ∃ x, (wordsB s)[k]? = some x := ⟨_, List.getElem?_eq_getElem hml⟩
      have c0 := (HAT.out.keep hwr).cell hx
      have hgd : (wordsB s).getD k ⟨#[]⟩ = x := by rw [List.getD_eq_getElem?_getD, hx]; rfl
      have hxz := wordsB_size (List.mem_of_getElem? hx)
      obtain ⟨q, hq⟩ : ∃ q, q = initB x := ⟨_, rfl⟩
      have hqz : q.size ≤ 504 := by rw [hq]; have := initB_size x; omega
      have HI := Lib.hid (show Calls Tryz.prog 63 #[.string x] wo fun e w' => e = .returned (.string q) ∧ All wo w' by rw [hq]; exact initialP_any x wo (by omega) (HG.out.keep (hw1.trans hwr)))
      obtain ⟨t1, ht1, hz1, g1⟩ := catRun Tryz.prog q ⟨#[46, 32]⟩ (by have : (⟨#[46, 32]⟩ : ByteArray).size = 2 := rfl; omega)
      obtain ⟨t2, ht2, hz2, g2⟩ := catRun Tryz.prog o t1 (by rw [hz1]; have : (⟨#[46, 32]⟩ : ByteArray).size = 2 := rfl; omega)
      have HT := Lib.hid (show initsTo s (k + 1) = t2 by rw [initsTo, hgd, ht2, ht1, hq, HO.out])
      clear hx hgd hxz hq hqz ht1 ht2 hz1 hz2 hsz hml
      go_wp2_with fail
      refine HI.out.mono ?_
      rintro e w2 ⟨rfl, hw2⟩
      go_wp2_with fail
      go_roundw
      case rel => exact ⟨k + 1, by omega, by go_num, by rw [HT.out], hwr.trans hw2⟩
      case measure => simp [intOf]; omega
    · have hd : decide ((k : Int) < (cn : Int)) = false := by simp; omega
      have hke : k = cn := by omega
      obtain ⟨fm, hfm⟩ : ∃ f, f = famB s := ⟨_, rfl⟩
      have HFM := Lib.hid hfm
      obtain ⟨t1, ht1, -, g1⟩ := catRun Tryz.prog o fm (by rw [hfm]; have := HF.out; omega)
      have HT := Lib.hid (show initsB s = t1 by rw [initsB, ht1, HO.out, hfm, ← HC.out, hke])
      clear hke hfm ht1 hsz
      go_wp2_with fail
      refine (HJ1.out _ hwr).mono ?_
      rintro e w2 ⟨rfl, hw2⟩
      rw [HE1.out, ← HFM.out]
      go_wp2_with fail
      go_ret
      exact ⟨by rw [HT.out]; rfl, (hw1.trans hwr).trans hw2⟩

end Go.Proofs.YtbpbhpmkganefaaGreatDoor
