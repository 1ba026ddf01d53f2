/- Words in UTF-8: the first code points of a word's parts, by its bytes and by its runes. No program in sight. -/
import Derived.Lib.ValidLaws
import Derived.Lib.MapLaws
import Derived.Laws.Cover4
import Derived.Lib.Split
import Derived.Lib.SplitLaws
import Derived.Lib.IndexMore
import Derived.Lib.SlTrimSet
import Derived.Laws.IdiomStrings
import Derived.Test.YtbpbhpmkganefaaGreatDoorKc
import Derived.Test.YtbpbhpmkganefaaGreatDoorSt
namespace Go.Proofs.YtbpbhpmkganefaaGreatDoor
open Go.Lib Go

theorem dec2 {n b0 b1 b2 b3 : Nat} (h0 : b0 / 32 = 6) (h1 : 1 < n) (h2 : b1 / 64 = 2) (h3 : 128 ≤ b0 % 32 * 64 + b1 % 64) : decodeN n b0 b1 b2 b3 = (b0 % 32 * 64 + b1 % 64, 2) := by
  unfold decodeN
  rw [if_neg (by omega), if_pos ⟨h0, h1, h2⟩, if_pos h3]
theorem dec3 {n b0 b1 b2 b3 : Nat} (h0 : b0 / 16 = 14) (h1 : 2 < n) (h2 : b1 / 64 = 2) (h3 : b2 / 64 = 2) (h4 : 2048 ≤ b0 % 16 * 4096 + b1 % 64 * 64 + b2 % 64) (h5 : b0 % 16 * 4096 + b1 % 64 * 64 + b2 % 64 < 55296 ∨ 57344 ≤ b0 % 16 * 4096 + b1 % 64 * 64 + b2 % 64) :
    decodeN n b0 b1 b2 b3 = (b0 % 16 * 4096 + b1 % 64 * 64 + b2 % 64, 3) := by
  unfold decodeN
  rw [if_neg (by omega), if_neg (by omega), if_pos ⟨h0, ⟨by omega, h2⟩, ⟨h1, h3⟩⟩, if_pos ⟨h4, by omega⟩]
theorem dec4 {n b0 b1 b2 b3 : Nat} (h0 : b0 / 8 = 30) (h1 : 3 < n) (h2 : b1 / 64 = 2) (h3 : b2 / 64 = 2) (h3' : b3 / 64 = 2) (h4 : 65536 ≤ b0 % 8 * 262144 + b1 % 64 * 4096 + b2 % 64 * 64 + b3 % 64) (h5 : b0 % 8 * 262144 + b1 % 64 * 4096 + b2 % 64 * 64 + b3 % 64 ≤ 1114111) :
    decodeN n b0 b1 b2 b3 = (b0 % 8 * 262144 + b1 % 64 * 4096 + b2 % 64 * 64 + b3 % 64, 4) := by
  unfold decodeN
  rw [if_neg (by omega), if_neg (by omega), if_neg (by omega), if_pos ⟨h0, ⟨by omega, h2⟩, ⟨by omega, h3⟩, ⟨h1, h3'⟩⟩, if_pos ⟨h4, by omega⟩]

theorem encEx : ∃ f : Nat → ByteArray, ∀ c, f c = Utf8.encode (c : Int) := ⟨fun c => Utf8.encode (c : Int), fun _ => rfl⟩
/-- A code point's bytes (chosen, so that the kernel looks not into it). -/
noncomputable def encN : Nat → ByteArray := encEx.choose
theorem encN_eq (c : Nat) : encN c = Utf8.encode (c : Int) := encEx.choose_spec c
/-- A good step of the decoder, whole: block is what it reads, c the code point; it reads so whatever follows. -/
structure GoodStep (block : List UInt8) (c : Nat) : Prop where
  pos : 1 ≤ block.length
  dec : ∀ r, decodeL (block ++ r) = (c, block.length)
  enc : (encN c).data.toList = block
  kind : (∃ b, block = [b] ∧ b.toNat = c ∧ c < 128) ∨ (128 ≤ c ∧ ∀ x ∈ block, 128 ≤ x.toNat)
theorem cons_of {n : Nat} {l : List UInt8} (h : n + 1 ≤ l.length) : ∃ b t, l = b :: t ∧ n ≤ t.length := by
  cases l with
  | nil => simp at h
  | cons b t => exact ⟨b, t, rfl, by simpa using h⟩
theorem ofNat_eq {b : UInt8} {n : Nat} (h : n = b.toNat) : UInt8.ofNat n = b := by rw [h]; exact UInt8.ofNat_toNat
theorem step_good {l : List UInt8} (hne : l ≠ []) (hg : ¬ ((decodeL l).1 = 65533 ∧ (decodeL l).2 = 1)) : ∃ block rest c, l = block ++ rest ∧ GoodStep block c ∧ decodeL l = (c, block.length) := by
  have hN := decodeL_N l
  rcases decodeN_shape l.length (l.getD 0 0).toNat (l.getD 1 0).toNat (l.getD 2 0).toNat (l.getD 3 0).toNat with ⟨c, e⟩ | ⟨c1, c2, c3, cv, e⟩ | ⟨c1, c2, c3, c4, cv, cs, e⟩ | ⟨c1, c2, c3, c4, c5, cv, cw, e⟩ | e
  · cases l with
    | nil => exact absurd rfl hne
    | cons b t =>
      simp only [List.getD_cons_zero] at c e hN
      refine ⟨[b], t, b.toNat, rfl, ⟨by simp, fun r => decodeL_ascii b r c, ?_, .inl ⟨b, rfl, rfl, c⟩⟩, decodeL_ascii b t c⟩
      rw [encN_eq]
      unfold Utf8.encode
      have hv : Utf8.valid (b.toNat : Int) = true := by simp [Utf8.valid]; omega
      simp only [hv, if_true, Int.toNat_natCast]
      rw [if_pos c]
      simp
  · obtain ⟨b0, t0, rfl, q0⟩ := cons_of (n := 1) c2
    obtain ⟨b1, t, rfl, q1⟩ := cons_of (n := 0) q0
    simp only [List.getD_cons_zero, List.getD_cons_succ] at c1 c3 cv e hN
    have hb0 := b0.toNat_lt
    have hb1 := b1.toNat_lt
    refine ⟨[b0, b1], t, _, rfl, ⟨by simp, fun r => ?_, ?_, .inr ⟨cv, fun x hx => ?_⟩⟩, hN.trans e⟩
    · rw [decodeL_N]
      exact dec2 (by simpa using c1) (by simp) (by simpa using c3) (by simpa using cv)
    · rw [encN_eq]
      unfold Utf8.encode
      have hv : Utf8.valid ((b0.toNat % 32 * 64 + b1.toNat % 64 : Nat) : Int) = true := by simp [Utf8.valid]; omega
      simp only [hv, if_true, Int.toNat_natCast]
      rw [if_neg (by omega), if_pos (by omega)]
      simp only [List.cons.injEq, and_true]
      exact ⟨ofNat_eq (by omega), ofNat_eq (by omega)⟩
    · simp only [List.mem_cons, List.not_mem_nil, or_false] at hx
      rcases hx with rfl | rfl <;> omega
  · obtain ⟨b0, t0, rfl, q0⟩ := cons_of (n := 2) c2
    obtain ⟨b1, t1, rfl, q1⟩ := cons_of (n := 1) q0
    obtain ⟨b2, t, rfl, q2⟩ := cons_of (n := 0) q1
    simp only [List.getD_cons_zero, List.getD_cons_succ] at c1 c3 c4 cv cs e hN
    have hb0 := b0.toNat_lt
    have hb1 := b1.toNat_lt
    have hb2 := b2.toNat_lt
    refine ⟨[b0, b1, b2], t, _, rfl, ⟨by simp, fun r => ?_, ?_, .inr ⟨by omega, fun x hx => ?_⟩⟩, hN.trans e⟩
    · rw [decodeL_N]
      exact dec3 (by simpa using c1) (by simp) (by simpa using c3) (by simpa using c4) (by simpa using cv) (by simpa using cs)
    · rw [encN_eq]
      unfold Utf8.encode
      have hv : Utf8.valid ((b0.toNat % 16 * 4096 + b1.toNat % 64 * 64 + b2.toNat % 64 : Nat) : Int) = true := by simp [Utf8.valid]; omega
      simp only [hv, if_true, Int.toNat_natCast]
      rw [if_neg (by omega), if_neg (by omega), if_pos (by omega)]
      simp only [List.cons.injEq, and_true]
      exact ⟨ofNat_eq (by omega), ofNat_eq (by omega), ofNat_eq (by omega)⟩
    · simp only [List.mem_cons, List.not_mem_nil, or_false] at hx
      rcases hx with rfl | rfl | rfl <;> omega
  · obtain ⟨b0, t0, rfl, q0⟩ := cons_of (n := 3) c2
    obtain ⟨b1, t1, rfl, q1⟩ := cons_of (n := 2) q0
    obtain ⟨b2, t2, rfl, q2⟩ := cons_of (n := 1) q1
    obtain ⟨b3, t, rfl, q3⟩ := cons_of (n := 0) q2
    simp only [List.getD_cons_zero, List.getD_cons_succ] at c1 c3 c4 c5 cv cw e hN
    have hb0 := b0.toNat_lt
    have hb1 := b1.toNat_lt
    have hb2 := b2.toNat_lt
    have hb3 := b3.toNat_lt
    refine ⟨[b0, b1, b2, b3], t, _, rfl, ⟨by simp, fun r => ?_, ?_, .inr ⟨by omega, fun x hx => ?_⟩⟩, hN.trans e⟩
    · rw [decodeL_N]
      exact dec4 (by simpa using c1) (by simp) (by simpa using c3) (by simpa using c4) (by simpa using c5) (by simpa using cv) (by simpa using cw)
    · rw [encN_eq]
      unfold Utf8.encode
      have hv : Utf8.valid ((b0.toNat % 8 * 262144 + b1.toNat % 64 * 4096 + b2.toNat % 64 * 64 + b3.toNat % 64 : Nat) : Int) = true := by simp [Utf8.valid]; omega
      simp only [hv, if_true, Int.toNat_natCast]
      rw [if_neg (by omega), if_neg (by omega), if_neg (by omega)]
      simp only [List.cons.injEq, and_true]
      exact ⟨ofNat_eq (by omega), ofNat_eq (by omega), ofNat_eq (by omega), ofNat_eq (by omega)⟩
    · simp only [List.mem_cons, List.not_mem_nil, or_false] at hx
      rcases hx with rfl | rfl | rfl | rfl <;> omega
  · exact absurd (by rw [hN, e]; exact ⟨rfl, rfl⟩) hg

/-- A valid string: a row of good steps. -/
inductive Good : List UInt8 → List Nat → Prop
  | nil : Good [] []
  | step {block rest : List UInt8} {c : Nat} {cs : List Nat} : GoodStep block c → Good rest cs → Good (block ++ rest) (c :: cs)
theorem good_of_valid : ∀ (n : Nat) (l : List UInt8), l.length ≤ n → validD l = true → ∃ cs, Good l cs
  | _, [], _, _ => ⟨[], .nil⟩
  | 0, b :: t, h, _ => by simp at h
  | n + 1, b :: t, h, hv => by
    rw [validD_step _ (by simp)] at hv
    by_cases hg : (decodeL (b :: t)).1 = 65533 ∧ (decodeL (b :: t)).2 = 1
    · rw [if_pos hg] at hv; cases hv
    · rw [if_neg hg] at hv
      obtain ⟨block, rest, c, h1, h2, h3⟩ := step_good (by simp) hg
      rw [h3, h1] at hv
      rw [show (block ++ rest).drop block.length = rest by simp] at hv
      have hl := congrArg List.length h1
      simp only [List.length_cons, List.length_append] at hl h
      have := h2.pos
      obtain ⟨cs, hcs⟩ := good_of_valid n rest (by omega) hv
      exact ⟨c :: cs, h1 ▸ .step h2 hcs⟩

/-- What firstPoint reads. -/
def firstP (l : List UInt8) : List UInt8 := l.take (decodeL l).2
/-- What follows each hyphen, by bytes. -/
def scanP : List UInt8 → List UInt8
  | [] => []
  | b :: t => (if b = 45 ∧ t ≠ [] then 45 :: firstP t else []) ++ scanP t
/-- What follows each hyphen, by runes. -/
noncomputable def hyph : List Nat → List UInt8
  | [] => []
  | d :: _ => 45 :: (encN d).data.toList
noncomputable def scanR : List Nat → List UInt8
  | [] => []
  | c :: t => (if c = 45 then hyph t else []) ++ scanR t
theorem GoodStep.first {block : List UInt8} {c : Nat} (h : GoodStep block c) (rest : List UInt8) : firstP (block ++ rest) = (encN c).data.toList := by
  have e1 : firstP (block ++ rest) = block := by
    unfold firstP
    rw [h.dec]
    exact List.take_left
  exact e1.trans h.enc.symm
theorem good_first {l : List UInt8} {c : Nat} {cs : List Nat} (h : Good l (c :: cs)) : firstP l = (encN c).data.toList := by
  cases h with
  | step h1 h2 => exact h1.first _
theorem toNat45 : (45 : UInt8).toNat = 45 := by simp
theorem scanP_block {block : List UInt8} (rest : List UInt8) (h : ∀ x ∈ block, 128 ≤ x.toNat) : scanP (block ++ rest) = scanP rest := by
  induction block with
  | nil => rfl
  | cons b t ih =>
    have hb := h b (by simp)
    have hne : ¬ (b = 45 ∧ t ++ rest ≠ []) := fun e => by
      rw [e.1, toNat45] at hb
      omega
    rw [List.cons_append, scanP, if_neg hne, List.nil_append]
    exact ih (fun x hx => h x (List.mem_cons_of_mem _ hx))
theorem good_nil {l : List UInt8} {cs : List Nat} (h : Good l cs) : l = [] ↔ cs = [] := by
  cases h with
  | nil => simp
  | step h1 _ =>
    have := h1.pos
    constructor
    · intro e
      rw [List.append_eq_nil_iff] at e
      rw [e.1] at this
      simp at this
    · intro e; cases e
theorem good_scan {l : List UInt8} {cs : List Nat} (h : Good l cs) : scanP l = scanR cs := by
  induction h with
  | nil => rfl
  | @step block rest c cs h1 h2 ih =>
    rcases h1.kind with ⟨b, rfl, hb, hc⟩ | ⟨hc, hx⟩
    · rw [List.singleton_append, scanP, scanR, ih]
      congr 1
      by_cases h45 : c = 45
      · have hb45 : b = 45 := by
          apply UInt8.toNat_inj.1
          rw [hb, h45]; rfl
        rw [if_pos h45]
        cases h2 with
        | nil => simp [hyph]
        | @step b2 r2 d ds g1 g2 =>
          have hne : b2 ++ r2 ≠ [] := fun e => by
            rw [List.append_eq_nil_iff] at e
            have := g1.pos
            rw [e.1] at this
            simp at this
          rw [if_pos ⟨hb45, hne⟩, good_first (.step g1 g2), hyph]
      · rw [if_neg h45, if_neg (fun e => h45 (by rw [← hb, e.1]; rfl))]
    · rw [scanP_block rest hx, scanR, if_neg (by omega), List.nil_append, ih]

/-- A space parts a valid string in two. -/
theorem good_split {l : List UInt8} {cs : List Nat} (h : Good l cs) : ∀ {a r : List UInt8}, l = a ++ 32 :: r → ∃ c1 c2, Good a c1 ∧ Good r c2 := by
  induction h with
  | nil => intro a r e; simp at e
  | @step block rest c cs h1 h2 ih =>
    intro a r e
    have hp := h1.pos
    rcases h1.kind with ⟨b, rfl, hb, hc⟩ | ⟨hc, hx⟩
    · cases a with
      | nil =>
        simp only [List.singleton_append, List.nil_append, List.cons.injEq] at e
        rw [← e.2]
        exact ⟨[], cs, .nil, h2⟩
      | cons x a =>
        simp only [List.cons_append, List.cons.injEq, List.nil_append] at e
        obtain ⟨c1, c2, g1, g2⟩ := ih e.2
        rw [← e.1]
        exact ⟨c :: c1, c2, .step h1 g1, g2⟩
    · -- the block holds no space
      have hlen : block.length ≤ a.length := by
        rcases Nat.lt_or_ge a.length block.length with hlt | hge
        · exfalso
          have h3 : (block ++ rest)[a.length]? = some 32 := by rw [e]; simp
          rw [List.getElem?_append_left hlt] at h3
          have h7 := hx _ (List.mem_of_getElem? h3)
          have : (32 : UInt8).toNat = 32 := rfl
          omega
        · exact hge
      have ha : a = block ++ a.drop block.length := by
        have h4 := congrArg (List.take block.length) e
        rw [List.take_left, List.take_append_of_le_length hlen] at h4
        have h6 := List.take_append_drop block.length a
        rw [← h4] at h6
        exact h6.symm
      have hr : rest = a.drop block.length ++ 32 :: r := by
        have h5 := congrArg (List.drop block.length) e
        rw [List.drop_left, List.drop_append_of_le_length hlen] at h5
        exact h5
      obtain ⟨c1, c2, g1, g2⟩ := ih hr
      rw [ha]
      exact ⟨c :: c1, c2, .step h1 g1, g2⟩
end Go.Proofs.YtbpbhpmkganefaaGreatDoor

/- The words of a name: what strings.Split leaves of it; its runes. No program in sight. -/
namespace Go.Proofs.YtbpbhpmkganefaaGreatDoor
open Go.Lib Go

def sepB : ByteArray := ⟨#[32]⟩
/-- Words, put together again with spaces. -/
def glue : List (List UInt8) → List UInt8
  | [] => []
  | [a] => a
  | a :: b :: l => a ++ 32 :: glue (b :: l)
theorem glue_cons (a : List UInt8) {l : List (List UInt8)} (h : l ≠ []) : glue (a :: l) = a ++ 32 :: glue l := by
  cases l with
  | nil => exact absurd rfl h
  | cons b l => rfl
theorem occ_one {l : List UInt8} {i : Nat} (h : occAt l [32] i = true) : l.drop i = 32 :: l.drop (i + 1) := by
  unfold occAt at h
  cases hd : l.drop i with
  | nil => rw [hd] at h; cases h
  | cons b t =>
    rw [hd] at h
    simp only [List.isPrefixOf, Bool.and_true, beq_iff_eq] at h
    have h2 : l.drop (i + 1) = t := by
      rw [← List.tail_drop, hd]
      rfl
    rw [h2, h]
theorem extract_list (s : ByteArray) (a b : Nat) : (s.extract a b).data.toList = (s.data.toList.drop a).take (b - a) := by
  simp
theorem splitB_ne (sep : ByteArray) (sv : Nat) : ∀ (k : Nat) (s : ByteArray), splitB sep sv k s ≠ []
  | 0, s => by simp [splitB]
  | k + 1, s => by
    unfold splitB
    split <;> simp
theorem words_glue : ∀ (k : Nat) (s : ByteArray), glue ((splitB sepB 0 k s).map fun p => p.data.toList) = s.data.toList
  | 0, s => rfl
  | k + 1, s => by
    rcases index_spec s.data.toList [32] with ⟨h, -⟩ | ⟨i, h, hi, ho, -⟩
    · rw [splitB_miss sepB 0 (k + 1) s h]
      rfl
    · rw [splitB_hit sepB 0 k s i h, List.map_cons, glue_cons _ (by simp [splitB_ne]), words_glue k, extract_list, extract_list]
      have hd := occ_one ho
      have hz : sepB.size = 1 := rfl
      rw [hz, Nat.add_zero, Nat.sub_zero, List.drop_zero]
      have h2 : (s.data.toList.drop (i + 1)).take (s.size - (i + 1)) = s.data.toList.drop (i + 1) := by
        apply List.take_of_length_le
        rw [List.length_drop, size_eq]
        omega
      rw [h2, ← hd, List.take_append_drop]
theorem glue_good : ∀ (ps : List (List UInt8)) (cs : List Nat), Good (glue ps) cs → ∀ p ∈ ps, ∃ c, Good p c
  | [], _, _, p, hp => by simp at hp
  | [a], cs, h, p, hp => by
    have e : p = a := by simpa using hp
    exact ⟨cs, by rw [e]; exact h⟩
  | a :: b :: l, cs, h, p, hp => by
    obtain ⟨c1, c2, g1, g2⟩ := good_split h (a := a) (r := glue (b :: l)) rfl
    rcases List.mem_cons.1 hp with e | e
    · exact ⟨c1, by rw [e]; exact g1⟩
    · exact glue_good (b :: l) c2 g2 p e
theorem glue_ne : ∀ (ps : List (List UInt8)), (∀ t, glue ps ≠ 32 :: t) → (∀ a b, glue ps ≠ a ++ 32 :: 32 :: b) → ∀ (k : Nat) (p : List UInt8), ps[k]? = some p → k + 1 < ps.length → p ≠ []
  | [], _, _, k, p, _, h => by simp at h
  | [a], _, _, k, p, _, h => by simp at h
  | a :: b :: l, h1, h2, k, p, hp, hk => by
    cases k with
    | zero =>
      simp only [List.getElem?_cons_zero, Option.some.injEq] at hp
      rintro rfl
      subst hp
      exact h1 _ rfl
    | succ k =>
      refine glue_ne (b :: l) (fun t e => h2 a t ?_) (fun x y e => h2 (a ++ 32 :: x) y ?_) k p (by simpa using hp) (by simpa using hk)
      · show a ++ 32 :: glue (b :: l) = _
        rw [e]
      · show a ++ 32 :: glue (b :: l) = _
        rw [e]
        simp
/-- A string that is trimmed does not begin with a space. -/
theorem trim_head {l : List UInt8} (h : trimS l [32] = l) : ∀ t, l ≠ 32 :: t := by
  intro t e
  unfold trimS trimLeftS at h
  have h2 := List.head?_dropWhile_not (fun x => [(32 : UInt8)].contains x) (trimRightS l [32])
  rw [h, e] at h2
  simp at h2
/-- A string that does not hold two spaces. -/
theorem no_two {l : List UInt8} (h : contains l [32, 32] = false) : ∀ a b, l ≠ a ++ 32 :: 32 :: b := by
  intro a b e
  unfold contains at h
  rcases index_spec l [32, 32] with ⟨-, hno⟩ | ⟨i, h3, -⟩
  · have h4 := hno a.length (by rw [e]; simp)
    unfold occAt at h4
    rw [e] at h4
    simp at h4
  · rw [h3] at h
    simp at h
def wordsB (s : ByteArray) : List ByteArray := splitB sepB 0 (countB s sepB) s
theorem wordsB_len (s : ByteArray) : (wordsB s).length = countB s sepB + 1 := Lib.splitB_all sepB (by decide) 0 _ s rfl
theorem wordsB_cat (s : ByteArray) : glue ((wordsB s).map fun p => p.data.toList) = s.data.toList := words_glue _ s
theorem wordsB_good {s : ByteArray} (hv : validD s.data.toList = true) : ∀ p ∈ wordsB s, ∃ c, Good p.data.toList c := by
  intro p hp
  obtain ⟨cs, hg⟩ := good_of_valid _ _ (Nat.le_refl _) hv
  rw [← wordsB_cat] at hg
  exact glue_good _ cs hg p.data.toList (List.mem_map.2 ⟨p, hp, rfl⟩)
theorem wordsB_ne {s : ByteArray} (ht : trimS s.data.toList [32] = s.data.toList) (h2 : contains s.data.toList [32, 32] = false) {k : Nat} {p : ByteArray} (hp : (wordsB s)[k]? = some p) (hk : k + 1 < (wordsB s).length) : p.data.toList ≠ [] := by
  refine glue_ne ((wordsB s).map fun p => p.data.toList) ?_ ?_ k _ (by rw [List.getElem?_map, hp]; rfl) (by simpa using hk)
  · rw [wordsB_cat]; exact trim_head ht
  · rw [wordsB_cat]; exact no_two h2
theorem glue_lens : ∀ (ps : List (List UInt8)) (p : List UInt8), p ∈ ps → p.length ≤ (glue ps).length
  | [], p, h => by simp at h
  | [a], p, h => by
    have e : p = a := by simpa using h
    rw [e]; exact Nat.le_refl _
  | a :: b :: l, p, h => by
    show p.length ≤ (a ++ 32 :: glue (b :: l)).length
    simp only [List.length_append, List.length_cons]
    rcases List.mem_cons.1 h with e | e
    · rw [e]; omega
    · have := glue_lens (b :: l) p e
      omega
theorem wordsB_size {s p : ByteArray} (h : p ∈ wordsB s) : p.size ≤ s.size := by
  have := glue_lens ((wordsB s).map fun p => p.data.toList) p.data.toList (List.mem_map.2 ⟨p, h, rfl⟩)
  rw [wordsB_cat] at this
  rwa [size_eq, size_eq]

/-- The runes of a valid string. -/
theorem runes_good {s : ByteArray} : ∀ (bound i : Nat) (acc : Array Value) (cs : List Nat), Good (s.data.toList.drop i) cs → s.size - i ≤ bound → Conv.runesFrom s bound i acc = acc ++ (cs.map fun c : Nat => Value.int .i32 (c : Int)).toArray := by
  intro bound
  induction bound with
  | zero =>
    intro i acc cs h hb
    have he : s.data.toList.drop i = [] := List.drop_of_length_le (by rw [← size_eq]; omega)
    rw [(good_nil h).1 he]
    simp [Conv.runesFrom]
  | succ bound ih =>
    intro i acc cs h hb
    by_cases hi : i < s.size
    · have hne : s.data.toList.drop i ≠ [] := fun e => by
        have := List.drop_eq_nil_iff.1 e
        rw [← size_eq] at this
        omega
      have hcs : cs ≠ [] := fun e => hne ((good_nil h).2 e)
      generalize hl : s.data.toList.drop i = l at h hne
      cases h with
      | nil => exact absurd rfl hne
      | @step block rest c cs' h1 h2 =>
        have hdec : Utf8.decode s i = (c, block.length) := by
          rw [decode_N, ← h1.dec rest, ← hl, decodeL_N, List.length_drop]
          simp [List.getD_eq_getElem?_getD, List.getElem?_drop]
        have hrest : s.data.toList.drop (i + block.length) = rest := by
          rw [← List.drop_drop, hl]
          exact List.drop_left
        have hp := h1.pos
        rw [Conv.runesFrom, if_pos hi, hdec]
        simp only []
        rw [ih _ _ cs' (by rw [hrest]; exact h2) (by omega)]
        simp
    · have he : s.data.toList.drop i = [] := List.drop_of_length_le (by rw [← size_eq]; omega)
      rw [(good_nil h).1 he, Conv.runesFrom, if_neg hi]
      simp
end Go.Proofs.YtbpbhpmkganefaaGreatDoor

/- Particles of names; the first code point of a string; initial, by bytes. -/
namespace Go.Proofs.YtbpbhpmkganefaaGreatDoor
open Go.RowKit

/-- da de del den der di la le van von -/
def parts : List ByteArray := [⟨#[100, 97]⟩, ⟨#[100, 101]⟩, ⟨#[100, 101, 108]⟩, ⟨#[100, 101, 110]⟩, ⟨#[100, 101, 114]⟩, ⟨#[100, 105]⟩, ⟨#[108, 97]⟩, ⟨#[108, 101]⟩, ⟨#[118, 97, 110]⟩, ⟨#[118, 111, 110]⟩]
def particB (x : ByteArray) : Bool := memB x parts
theorem lit_ne {a : ByteArray} {l : List UInt8} (h : ¬ a = ⟨l.toArray⟩) : (a.toList == l) = false := by
  rw [beq_eq_false_iff_ne]
  intro e
  rw [Lib.toList_data] at e
  apply h
  rw [← e]
theorem isParticle_any (x : ByteArray) (w : World) : Calls Tryz.prog 83 #[.string x] w fun e w' => e = .returned (.bool (particB x)) ∧ w = w' := by
  by_cases h0 : x = ⟨#[100, 97]⟩
  · subst h0
    go_enter Tryz.func83, Tryz.ntmps83
    go_wp2_with fail
    go_ret
    exact ⟨by simp [particB, memB, parts], rfl⟩
  · have d0 := lit_ne (l := [100, 97]) h0
    by_cases h1 : x = ⟨#[100, 101]⟩
    · subst h1
      go_enter Tryz.func83, Tryz.ntmps83
      go_wp2_with fail
      go_ret
      exact ⟨by simp [particB, memB, parts], rfl⟩
    · have d1 := lit_ne (l := [100, 101]) h1
      by_cases h2 : x = ⟨#[100, 101, 108]⟩
      · subst h2
        go_enter Tryz.func83, Tryz.ntmps83
        go_wp2_with fail
        go_ret
        exact ⟨by simp [particB, memB, parts], rfl⟩
      · have d2 := lit_ne (l := [100, 101, 108]) h2
        by_cases h3 : x = ⟨#[100, 101, 110]⟩
        · subst h3
          go_enter Tryz.func83, Tryz.ntmps83
          go_wp2_with fail
          go_ret
          exact ⟨by simp [particB, memB, parts], rfl⟩
        · have d3 := lit_ne (l := [100, 101, 110]) h3
          by_cases h4 : x = ⟨#[100, 101, 114]⟩
          · subst h4
            go_enter Tryz.func83, Tryz.ntmps83
            go_wp2_with fail
            go_ret
            exact ⟨by simp [particB, memB, parts], rfl⟩
          · have d4 := lit_ne (l := [100, 101, 114]) h4
            by_cases h5 : x = ⟨#[100, 105]⟩
            · subst h5
              go_enter Tryz.func83, Tryz.ntmps83
              go_wp2_with fail
              go_ret
              exact ⟨by simp [particB, memB, parts], rfl⟩
            · have d5 := lit_ne (l := [100, 105]) h5
              by_cases h6 : x = ⟨#[108, 97]⟩
              · subst h6
                go_enter Tryz.func83, Tryz.ntmps83
                go_wp2_with fail
                go_ret
                exact ⟨by simp [particB, memB, parts], rfl⟩
              · have d6 := lit_ne (l := [108, 97]) h6
                by_cases h7 : x = ⟨#[108, 101]⟩
                · subst h7
                  go_enter Tryz.func83, Tryz.ntmps83
                  go_wp2_with fail
                  go_ret
                  exact ⟨by simp [particB, memB, parts], rfl⟩
                · have d7 := lit_ne (l := [108, 101]) h7
                  by_cases h8 : x = ⟨#[118, 97, 110]⟩
                  · subst h8
                    go_enter Tryz.func83, Tryz.ntmps83
                    go_wp2_with fail
                    go_ret
                    exact ⟨by simp [particB, memB, parts], rfl⟩
                  · have d8 := lit_ne (l := [118, 97, 110]) h8
                    by_cases h9 : x = ⟨#[118, 111, 110]⟩
                    · subst h9
                      go_enter Tryz.func83, Tryz.ntmps83
                      go_wp2_with fail
                      go_ret
                      exact ⟨by simp [particB, memB, parts], rfl⟩
                    · have d9 := lit_ne (l := [118, 111, 110]) h9
                      have hp : particB x = false := memB_false (by simp only [parts, List.mem_cons, List.not_mem_nil, or_false, not_or]; exact ⟨h0, h1, h2, h3, h4, h5, h6, h7, h8, h9⟩)
                      rw [hp]
                      clear hp
                      go_enter Tryz.func83, Tryz.ntmps83
                      go_wp2_with fail
                      go_ret
                      exact ⟨rfl, rfl⟩

/-- What a slice of strings that a call of the library's has laid reads as. -/
theorem sl_strs {F : Nat → Prop} {w : World} {b : Nat} {ss : List ByteArray} {t : TypeId} (hz : ∀ s ∈ ss, s.size ≤ 1000000) (hF : F b) (h : w.heap[b]? = some (.cells (ss.map Value.string).toArray t (0, 0))) : Sl RStr 1 F w (some ⟨b, 0, none⟩) ss.length ss := by
  refine ⟨rfl, fun _ => ⟨b, 0, rfl, hF, fun i hi => ⟨[.string ss[i]], rfl, fun j hj => ?_, rfl, hz _ (List.getElem_mem _)⟩⟩⟩
  have h0 : j = 0 := by simpa using hj
  subst h0
  refine cell_at h ?_
  simp [hi]
def partsText : ByteArray := ⟨#[100, 97, 32, 100, 101, 32, 100, 101, 108, 32, 100, 101, 110, 32, 100, 101, 114, 32, 100, 105, 32, 108, 97, 32, 108, 101, 32, 118, 97, 110, 32, 118, 111, 110]⟩
theorem parts_fields : (Lib.fields partsText.data.toList).map (fun l => (⟨l.toArray⟩ : ByteArray)) = parts := by kernel_rfl
set_option maxHeartbeats 1600000 in
theorem particle_any (x : ByteArray) (w : World) (ht : Lib.TabIs Tryz.prog w "strings.asciiSpace" .u8 Lib.asciiSpaceTab) :
    Calls Tryz.prog 102 #[.string x] w fun e w' => e = .returned (.bool (particB x)) ∧ All w w' := by
  have hf := Tryz.strings_Fields partsText w (by decide) (ascii_of_all (by decide)) ht
  have hmap : ((Lib.fields partsText.data.toList).map fun l => Value.string ⟨l.toArray⟩) = parts.map Value.string := by rw [← parts_fields, List.map_map]; rfl
  have hlen : (Lib.fields partsText.data.toList).length = 10 := by
    have := congrArg List.length parts_fields
    rw [List.length_map] at this
    exact this
  rw [hmap, hlen] at hf
  have HF := Lib.hid hf
  have hblk := heap_at w (.cells (parts.map Value.string).toArray 9) _ rfl
  have HC := Lib.hid (contains_any (some ⟨w.heap.size, 0, none⟩) 10 10 parts x (w.alloc (.cells (parts.map Value.string).toArray 9)) (sl_strs (F := fun _ => True) (by decide) trivial hblk) (by decide))
  have hk : All w (w.alloc (.cells (parts.map Value.string).toArray 9)) := Kept.alloc _ _ _
  clear hf hmap hlen ht hblk
  go_enter Tryz.func102, Tryz.ntmps102
  go_wp2_with fail
  refine HF.out.mono ?_
  rintro e w1 ⟨rfl, rfl⟩
  go_wp2_with fail
  refine HC.out.mono ?_
  rintro e w2 ⟨rfl, rfl⟩
  go_wp2_with fail
  go_ret
  exact ⟨rfl, hk⟩

theorem decodeGo_L (s : ByteArray) : (Lib.decodeGo s).2 ≤ s.size ∧ s.data.toList.take (Lib.decodeGo s).2 = firstP s.data.toList := by
  unfold Lib.decodeGo firstP
  by_cases h0 : s.size = 0
  · rw [if_pos h0]
    have e : s.data.toList = [] := List.eq_nil_of_length_eq_zero (by rw [← Lib.size_eq]; exact h0)
    rw [e]
    simp
  · rw [if_neg h0]
    have e : Lib.decodeL s.data.toList = Utf8.decode s 0 := by
      unfold Lib.decodeL
      congr 1
    have hne : s.data.toList ≠ [] := fun e2 => h0 (by rw [Lib.size_eq, e2]; rfl)
    have := Lib.decodeL_le _ hne
    rw [e, ← Lib.size_eq] at this
    exact ⟨this, by rw [e]⟩
theorem decodeGo_nonneg (s : ByteArray) : 0 ≤ ((Lib.decodeGo s).2 : Int) := by omega
set_option maxHeartbeats 1600000 in
theorem firstPoint_any (s : ByteArray) (w : World) (hg : Glob w) :
    Calls Tryz.prog 95 #[.string s] w fun e w' => e = .returned (.string ⟨(firstP s.data.toList).toArray⟩) ∧ All w w' := by
  have HD := Lib.hid (Tryz.utf8_DecodeRuneInString s w hg.tabs)
  obtain ⟨hle, htk⟩ := decodeGo_L s
  obtain ⟨r, hr⟩ : ∃ r, r = (Lib.decodeGo s).1 := ⟨_, rfl⟩
  obtain ⟨n, hn⟩ : ∃ n, n = (Lib.decodeGo s).2 := ⟨_, rfl⟩
  rw [← hr, ← hn] at HD
  rw [← hn] at hle htk
  have HE := Lib.hid (show s.extract 0 n = ⟨(firstP s.data.toList).toArray⟩ from by
    apply bytes_ext
    rw [Lib.toList_data, Lib.toList_data, ← htk]
    simp)
  have f1 : (0 : Int) ≤ (n : Int) := by omega
  have f2 : (n : Int) ≤ (s.size : Int) := by omega
  clear hr hn htk hg
  go_enter Tryz.func95, Tryz.ntmps95
  go_wp2_with fail
  refine HD.out.mono ?_
  rintro e w1 ⟨rfl, hw1⟩
  go_wp2_with fail
  go_ret
  exact ⟨by rw [← HE.out]; simp, Kept.of_below hw1⟩
end Go.Proofs.YtbpbhpmkganefaaGreatDoor

/- initial, by bytes and by runes. -/
namespace Go.Proofs.YtbpbhpmkganefaaGreatDoor
open Go.RowKit

/-- Strings put together. -/
theorem catRun (P : Program) (a b : ByteArray) (h : a.size + b.size ≤ 9223372036854775807) : ∃ t : ByteArray, t = a ++ b ∧ t.size = a.size + b.size ∧ ∀ wx : World, (Op.stringOp .add a b).run P wx = .ok (.string t) wx :=
  ⟨_, rfl, ByteArray.size_append, fun wx => run_string_add_sum wx a b h⟩
/-- What stands behind place i of a word. -/
def pieceP (l : List UInt8) (i : Nat) : List UInt8 := if l[i]? = some 45 ∧ i + 1 < l.length then 45 :: firstP (l.drop (i + 1)) else []
def uptoP (l : List UInt8) : Nat → List UInt8
  | 0 => []
  | i + 1 => uptoP l i ++ pieceP l i
theorem pieceP_cons (b : UInt8) (t : List UInt8) (i : Nat) : pieceP (b :: t) (i + 1) = pieceP t i := by
  unfold pieceP
  simp only [List.getElem?_cons_succ, List.length_cons, List.drop_succ_cons, Nat.add_lt_add_iff_right]
theorem uptoP_cons (b : UInt8) (t : List UInt8) : ∀ i, uptoP (b :: t) (i + 1) = (if b = 45 ∧ t ≠ [] then 45 :: firstP t else []) ++ uptoP t i
  | 0 => by
    show [] ++ pieceP (b :: t) 0 = _ ++ []
    unfold pieceP
    rw [List.nil_append, List.append_nil]
    by_cases h : b = 45 ∧ t ≠ []
    · rw [if_pos h, if_pos ⟨by simp [h.1], by have := List.length_pos_iff.2 h.2; simp; omega⟩]
      rfl
    · rw [if_neg h, if_neg (fun e => h ⟨by simpa using e.1, fun e2 => by simp [e2] at e⟩)]
  | i + 1 => by
    rw [uptoP, uptoP_cons b t i, pieceP_cons, List.append_assoc]
    rfl
theorem uptoP_all : ∀ l : List UInt8, uptoP l l.length = scanP l
  | [] => rfl
  | b :: t => by rw [List.length_cons, uptoP_cons, uptoP_all t, scanP]
theorem uptoP_last (l : List UInt8) : uptoP l (l.length - 1) = scanP l := by
  rw [← uptoP_all l]
  cases hl : l.length with
  | zero => rfl
  | succ n =>
    rw [Nat.add_sub_cancel, uptoP]
    unfold pieceP
    rw [if_neg (by omega), List.append_nil]
theorem firstP_len (l : List UInt8) : (firstP l).length ≤ 4 := by
  unfold firstP
  rw [List.length_take]
  have h := Lib.decodeL_N l
  have h4 : (Lib.decodeL l).2 ≤ 4 := by
    rw [h]
    rcases Lib.decodeN_shape l.length (l.getD 0 0).toNat (l.getD 1 0).toNat (l.getD 2 0).toNat (l.getD 3 0).toNat with ⟨_, e⟩ | ⟨_, _, _, _, e⟩ | ⟨_, _, _, _, _, _, e⟩ | ⟨_, _, _, _, _, _, _, e⟩ | e <;> rw [e] <;> simp
  omega
theorem uptoP_len (l : List UInt8) : ∀ i, (uptoP l i).length ≤ 5 * i
  | 0 => by simp [uptoP]
  | i + 1 => by
    have h1 := uptoP_len l i
    have h2 := firstP_len (l.drop (i + 1))
    rw [uptoP, List.length_append]
    unfold pieceP
    split
    · rw [List.length_cons]; omega
    · simp; omega
def initB (s : ByteArray) : ByteArray := ⟨(firstP s.data.toList ++ scanP s.data.toList).toArray⟩
def initTo (s : ByteArray) (i : Nat) : ByteArray := ⟨(firstP s.data.toList ++ uptoP s.data.toList i).toArray⟩
theorem initTo_size (s : ByteArray) (i : Nat) : (initTo s i).size ≤ 4 + 5 * i := by
  have h1 := firstP_len s.data.toList
  have h2 := uptoP_len s.data.toList i
  rw [Lib.size_eq]
  simp only [initTo, List.length_append]
  omega
theorem initTo_zero (s : ByteArray) : initTo s 0 = ⟨(firstP s.data.toList).toArray⟩ := by simp [initTo, uptoP]
theorem initTo_all (s : ByteArray) : initTo s (s.size - 1) = initB s := by
  unfold initTo initB
  rw [Lib.size_eq, uptoP_last]
theorem ba_append (a b : List UInt8) : (⟨a.toArray⟩ : ByteArray) ++ ⟨b.toArray⟩ = ⟨(a ++ b).toArray⟩ := by
  apply ByteArray.ext
  simp
theorem initTo_hit {s : ByteArray} {i : Nat} (h : s.data.toList[i]? = some 45) (hi : i + 1 < s.size) : initTo s (i + 1) = initTo s i ++ (⟨#[45]⟩ ++ ⟨(firstP (s.data.toList.drop (i + 1))).toArray⟩) := by
  unfold initTo
  rw [uptoP, pieceP, if_pos ⟨h, by rw [← Lib.size_eq]; exact hi⟩, show (⟨#[45]⟩ : ByteArray) = ⟨[45].toArray⟩ from rfl, ba_append, ba_append, List.append_assoc]
  rfl
theorem initTo_miss {s : ByteArray} {i : Nat} (h : ¬ s.data.toList[i]? = some 45) : initTo s (i + 1) = initTo s i := by
  unfold initTo
  rw [uptoP, pieceP, if_neg (fun e => h e.1), List.append_nil]

set_option maxHeartbeats 3200000 in
theorem initialP_any (s : ByteArray) (w : World) (hs : s.size ≤ 1000000) (hg : Glob w) :
    Calls Tryz.prog 63 #[.string s] w fun e w' => e = .returned (.string (initB s)) ∧ All w w' := by
  have HF := Lib.hid (fun (wx : World) (k : All w wx) (t : ByteArray) => firstPoint_any t wx (hg.keep k))
  have HE := Lib.hid (initTo_all s)
  have HZ := Lib.hid (initTo_zero s)
  clear hg
  have f0 : IntKind.i64.wrap ((s.size : Int) - 1) = (s.size : Int) - 1 := IntWalk.i64_in _ (by omega)
  go_enter Tryz.func63, Tryz.ntmps63
  go_wp2_with fail
  refine (HF.out _ (Kept.refl _ _) s).mono ?_
  rintro e w1 ⟨rfl, hw1⟩
  rw [← HZ.out]
  go_wp2_with fail
  go_loopw [3, 4] (fun o i wr => ∃ k : Nat, k ≤ s.size - 1 ∧ i = .int .i64 k ∧ o = .string (initTo s k) ∧ All w wr) (fun _ i _ => s.size - (intOf i).toNat)
  case atStart => exact ⟨0, Nat.zero_le _, rfl, rfl, hw1⟩
  case round =>
    obtain ⟨k, hk, rfl, rfl, hwr⟩ := hrel
    obtain ⟨wo, rfl⟩ : ∃ wo : World, wo = wr := ⟨_, rfl⟩
    have hsz := initTo_size s k
    by_cases hlt : k + 1 < s.size
    · have d1 : decide ((k : Int) < (s.size : Int) - 1) = true := by simp; omega
      have hks : k < s.size := by omega
      obtain ⟨o, ho⟩ : ∃ o, o = initTo s k := ⟨_, rfl⟩
      have HO := Lib.hid ho
      rw [← ho] at hsz ⊢
      have f1 : IntKind.i64.wrap ((k : Int) + 1) = ((k + 1 : Nat) : Int) := by rw [IntWalk.i64_in _ (by omega)]; omega
      have hat : s.data.toList[k]? = some s[k] := by rw [Array.getElem?_toList, Array.getElem?_eq_getElem (show k < s.data.size from hks)]; rfl
      by_cases h45 : s[k] = 45
      · have d2 : ((s[k].toNat : Int) == 45) = true := by rw [h45]; rfl
        have hN := initTo_hit (s := s) (i := k) (by rw [hat, h45]) hlt
        obtain ⟨t, ht⟩ : ∃ t, t = s.extract (k + 1) s.size := ⟨_, rfl⟩
        have HT := Lib.hid ht
        have htl : t.data.toList = s.data.toList.drop (k + 1) := by rw [ht]; exact Lib.extract_to_end _ _
        obtain ⟨q, hq⟩ : ∃ q : ByteArray, q = ⟨(firstP t.data.toList).toArray⟩ := ⟨_, rfl⟩
        have hqz : q.size ≤ 4 := by rw [hq, Lib.size_eq]; simpa using firstP_len _
        have HQ := Lib.hid (fun (wx : World) (kx : All w wx) => (show Calls Tryz.prog 95 #[.string t] wx fun e w' => e = .returned (.string q) ∧ All wx w' by rw [hq]; exact HF.out wx kx t))
        rw [← htl, ← hq, ← ho] at hN
        obtain ⟨t1, ht1, hz1, g1⟩ := catRun Tryz.prog ⟨#[45]⟩ q (by have : (⟨#[45]⟩ : ByteArray).size = 1 := rfl; omega)
        obtain ⟨t2, ht2, hz2, g2⟩ := catRun Tryz.prog o t1 (by rw [hz1]; have : (⟨#[45]⟩ : ByteArray).size = 1 := rfl; omega)
        have HN := Lib.hid (show initTo s (k + 1) = t2 by rw [hN, ht2, ht1])
        have f2 : (0 : Int) ≤ ((k + 1 : Nat) : Int) := by omega
        have f3 : ((k + 1 : Nat) : Int) ≤ (s.size : Int) := by omega
        clear hat h45 hN ht htl hq ht1 ht2 hz1 hz2 hqz hsz ho
        go_wp2_with fail
        rw [← HT.out]
        refine (HQ.out _ hwr).mono ?_
        rintro e w2 ⟨rfl, hw2⟩
        have hk2 := hwr.trans hw2
        go_wp2_with fail
        go_roundw
        case rel => exact ⟨k + 1, by omega, by go_num, by rw [HN.out], hk2⟩
        case measure => simp [intOf]; omega
      · have d2 : ((s[k].toNat : Int) == 45) = false := by
          rw [beq_eq_false_iff_ne]
          intro e
          apply h45
          apply UInt8.toNat_inj.1
          have : (45 : UInt8).toNat = 45 := rfl
          omega
        have HN := Lib.hid (show initTo s (k + 1) = o by rw [initTo_miss (by rw [hat]; intro e; exact h45 (Option.some.inj e)), HO.out])
        clear hat h45 hsz ho
        go_wp2_with fail
        go_roundw
        case rel => exact ⟨k + 1, by omega, by go_num, by rw [HN.out], hwr⟩
        case measure => simp [intOf]; omega
    · have d1 : decide ((k : Int) < (s.size : Int) - 1) = false := by simp; omega
      have hke : k = s.size - 1 := by omega
      have HK := Lib.hid (show initTo s k = initB s by rw [hke]; exact HE.out)
      clear hke
      go_wp2_with fail
      go_ret
      exact ⟨by rw [HK.out]; rfl, hwr⟩

/-- Runes, each as its bytes. -/
noncomputable def encsL (cs : List Nat) : List UInt8 := (encN (cs.headD 0)).data.toList ++ scanR cs
theorem init_runes {s : ByteArray} {cs : List Nat} (h : Good s.data.toList cs) (hne : s.data.toList ≠ []) : initB s = ⟨(encsL cs).toArray⟩ := by
  unfold initB encsL
  rw [good_scan h]
  cases cs with
  | nil => exact absurd ((good_nil h).2 rfl) hne
  | cons c cs => rw [good_first h, List.headD_cons]
/-- What stands behind rune i. -/
noncomputable def pieceR (cs : List Nat) (i : Nat) : List UInt8 := if cs[i]? = some 45 then hyph (cs.drop (i + 1)) else []
noncomputable def uptoR (cs : List Nat) : Nat → List UInt8
  | 0 => []
  | i + 1 => uptoR cs i ++ pieceR cs i
theorem uptoR_cons (c : Nat) (t : List Nat) : ∀ i, uptoR (c :: t) (i + 1) = (if c = 45 then hyph t else []) ++ uptoR t i
  | 0 => by
    show [] ++ pieceR (c :: t) 0 = _ ++ []
    unfold pieceR
    rw [List.nil_append, List.append_nil]
    by_cases h : c = 45 <;> simp [h]
  | i + 1 => by
    rw [uptoR, uptoR_cons c t i, List.append_assoc]
    congr 1
theorem uptoR_all : ∀ cs : List Nat, uptoR cs cs.length = scanR cs
  | [] => rfl
  | c :: t => by rw [List.length_cons, uptoR_cons, uptoR_all t, scanR]
end Go.Proofs.YtbpbhpmkganefaaGreatDoor
