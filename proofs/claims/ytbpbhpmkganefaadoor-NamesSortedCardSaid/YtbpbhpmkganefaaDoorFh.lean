/- Words in UTF-8: the first code points of a word's parts, by its bytes and by its runes. No program in sight. -/
import Derived.Lib.ValidLaws
import Derived.Lib.MapLaws
import Derived.Laws.Cover4
namespace Go.Proofs.YtbpbhpmkganefaaDoor
open Go.Lib Go

theorem dec2 {n b0 b1 b2 b3 : Nat} (h0 : b0 / 32 = 6) (h1 : 1 < n) (h2 : b1 / 64 = 2) (h3 : 128 ≤ b0 % 32 * 64 + b1 % 64) : decodeN n b0 b1 b2 b3 = (b0 % 32 * 64 + b1 % 64, 2) := by
  unfold decodeN
  rw [if_neg (by omega), if_pos ⟨h0, h1, h2⟩, if_pos h3]
theorem dec3 {n b0 b1 b2 b3 : Nat} (h0 : b0 / 16 = 14) (h1 : 2 < n) (h2 : b1 / 64 = 2) (h3 : b2 / 64 = 2) (h4 : 2048 ≤ b0 % 16 * 4096 + b1 % 64 * 64 + b2 % 64) (h5 : b0 % 16 * 4096 + b1 % 64 * 64 + b2 % 64 < 55296 ∨ 57344 ≤ b0 % 16 * 4096 + b1 % 64 * 64 + b2 % 64) :
    decodeN n b0 b1 b2 b3 = (b0 % 16 * 4096 + b1 % 64 * 64 + b2 % 64, 3) := by
  unfold decodeN
  rw [if_neg (by omega), if_neg (by omega), if_pos ⟨h0, ⟨by omega, h2⟩, ⟨h1, h3⟩⟩, if_pos ⟨h4, by omega⟩]
theorem dec4 {n b0 b1 b2 b3 : Nat} (h0 : b0 / 8 = 30) (h1 : 3 < n) (h2 : b1 / 64 = 2) (h3 : b2 / 64 = 2) (h3' : b3 / 64 = 2) (h4 : 65536 ≤ b0 % 8 * 262144 + b1 % 64 * 4096 + b2 % 64 * 64 + b3 % 64) (h5 : b0 % 8 * 262144 + b1 % 64 * 4096 + b2 % 64 * 64 + b3 % 64 ≤ 1114111) :
    decodeN n b0 b1 b2 b3 = (b0 % 8 * 262144 + b1 % 64 * 4096 + b2 % 64 * 64 + b3 % 64, 4) := by
  unfold decodeN
  rw [if_neg (by omega), if_neg (by omega), if_neg (by omega), if_pos ⟨h0, ⟨by omega, h2⟩, ⟨by omega, h3⟩, ⟨h1, h3'⟩⟩, if_pos ⟨h4, by omega⟩]

theorem encEx : ∃ f : Nat → ByteArray, ∀ c, f c = Utf8.encode (c : Int) := ⟨fun c => Utf8.encode (c : Int), fun _ => rfl⟩
/-- A code point's bytes (chosen, so that the kernel looks not into it). -/
noncomputable def encN : Nat → ByteArray := encEx.choose
theorem encN_eq (c : Nat) : encN c = Utf8.encode (c : Int) := encEx.choose_spec c
/-- A good step of the decoder, whole: block is what it reads, c the code point; it reads so whatever follows. -/
structure GoodStep (block : List UInt8) (c : Nat) : Prop where
  pos : 1 ≤ block.length
  dec : ∀ r, decodeL (block ++ r) = (c, block.length)
  enc : (encN c).data.toList = block
  kind : (∃ b, block = [b] ∧ b.toNat = c ∧ c < 128) ∨ (128 ≤ c ∧ ∀ x ∈ block, 128 ≤ x.toNat)
theorem cons_of {n : Nat} {l : List UInt8} (h : n + 1 ≤ l.length) : ∃ b t, l = b :: t ∧ n ≤ t.length := by
  cases l with
  | nil => simp at h
  | cons b t => exact ⟨b, t, rfl, by simpa using h⟩
theorem ofNat_eq {b : UInt8} {n : Nat} (h : n = b.toNat) : UInt8.ofNat n = b := by rw [h]; exact UInt8.ofNat_toNat
theorem step_good {l : List UInt8} (hne : l ≠ []) (hg : ¬ ((decodeL l).1 = 65533 ∧ (decodeL l).2 = 1)) : ∃ block rest c, l = block ++ rest ∧ GoodStep block c ∧ decodeL l = (c, block.length) := by
  have hN := decodeL_N l
  rcases decodeN_shape l.length (l.getD 0 0).toNat (l.getD 1 0).toNat (l.getD 2 0).toNat (l.getD 3 0).toNat with ⟨c, e⟩ | ⟨c1, c2, c3, cv, e⟩ | ⟨c1, c2, c3, c4, cv, cs, e⟩ | ⟨c1, c2, c3, c4, c5, cv, cw, e⟩ | e
  · cases l with
    | nil => exact absurd rfl hne
    | cons b t =>
      simp only [List.getD_cons_zero] at c e hN
      refine ⟨[b], t, b.toNat, rfl, ⟨by simp, fun r => decodeL_ascii b r c, ?_, .inl ⟨b, rfl, rfl, c⟩⟩, decodeL_ascii b t c⟩
      rw [encN_eq]
      unfold Utf8.encode
      have hv : Utf8.valid (b.toNat : Int) = true := by simp [Utf8.valid]; omega
      simp only [hv, if_true, Int.toNat_natCast]
      rw [if_pos c]
      simp
  · obtain ⟨b0, t0, rfl, q0⟩ := cons_of (n := 1) c2
    obtain ⟨b1, t, rfl, q1⟩ := cons_of (n := 0) q0
    simp only [List.getD_cons_zero, List.getD_cons_succ] at c1 c3 cv e hN
    have hb0 := b0.toNat_lt
    have hb1 := b1.toNat_lt
    refine ⟨[b0, b1], t, _, rfl, ⟨by simp, fun r => ?_, ?_, .inr ⟨cv, fun x hx => ?_⟩⟩, hN.trans e⟩
    · rw [decodeL_N]
      exact dec2 (by simpa using c1) (by simp) (by simpa using c3) (by simpa using cv)
    · rw [encN_eq]
      unfold Utf8.encode
      have hv : Utf8.valid ((b0.toNat % 32 * 64 + b1.toNat % 64 : Nat) : Int) = true := by simp [Utf8.valid]; omega
      simp only [hv, if_true, Int.toNat_natCast]
      rw [if_neg (by omega), if_pos (by omega)]
      simp only [List.cons.injEq, and_true]
      exact ⟨ofNat_eq (by omega), ofNat_eq (by omega)⟩
    · simp only [List.mem_cons, List.not_mem_nil, or_false] at hx
      rcases hx with rfl | rfl <;> omega
  · obtain ⟨b0, t0, rfl, q0⟩ := cons_of (n := 2) c2
    obtain ⟨b1, t1, rfl, q1⟩ := cons_of (n := 1) q0
    obtain ⟨b2, t, rfl, q2⟩ := cons_of (n := 0) q1
    simp only [List.getD_cons_zero, List.getD_cons_succ] at c1 c3 c4 cv cs e hN
    have hb0 := b0.toNat_lt
    have hb1 := b1.toNat_lt
    have hb2 := b2.toNat_lt
    refine ⟨[b0, b1, b2], t, _, rfl, ⟨by simp, fun r => ?_, ?_, .inr ⟨by omega, fun x hx => ?_⟩⟩, hN.trans e⟩
    · rw [decodeL_N]
      exact dec3 (by simpa using c1) (by simp) (by simpa using c3) (by simpa using c4) (by simpa using cv) (by simpa using cs)
    · rw [encN_eq]
      unfold Utf8.encode
      have hv : Utf8.valid ((b0.toNat % 16 * 4096 + b1.toNat % 64 * 64 + b2.toNat % 64 : Nat) : Int) = true := by simp [Utf8.valid]; omega
      simp only [hv, if_true, Int.toNat_natCast]
      rw [if_neg (by omega), if_neg (by omega), if_pos (by omega)]
      simp only [List.cons.injEq, and_true]
      exact ⟨ofNat_eq (by omega), ofNat_eq (by omega), ofNat_eq (by omega)⟩
    · simp only [List.mem_cons, List.not_mem_nil, or_false] at hx
      rcases hx with rfl | rfl | rfl <;> omega
  · obtain ⟨b0, t0, rfl, q0⟩ := cons_of (n := 3) c2
    obtain ⟨b1, t1, rfl, q1⟩ := cons_of (n := 2) q0
    obtain ⟨b2, t2, rfl, q2⟩ := cons_of (n := 1) q1
    obtain ⟨b3, t, rfl, q3⟩ := cons_of (n := 0) q2
    simp only [List.getD_cons_zero, List.getD_cons_succ] at c1 c3 c4 c5 cv cw e hN
    have hb0 := b0.toNat_lt
    have hb1 := b1.toNat_lt
    have hb2 := b2.toNat_lt
    have hb3 := b3.toNat_lt
    refine ⟨[b0, b1, b2, b3], t, _, rfl, ⟨by simp, fun r => ?_, ?_, .inr ⟨by omega, fun x hx => ?_⟩⟩, hN.trans e⟩
    · rw [decodeL_N]
      exact dec4 (by simpa using c1) (by simp) (by simpa using c3) (by simpa using c4) (by simpa using c5) (by simpa using cv) (by simpa using cw)
    · rw [encN_eq]
      unfold Utf8.encode
      have hv : Utf8.valid ((b0.toNat % 8 * 262144 + b1.toNat % 64 * 4096 + b2.toNat % 64 * 64 + b3.toNat % 64 : Nat) : Int) = true := by simp [Utf8.valid]; omega
      simp only [hv, if_true, Int.toNat_natCast]
      rw [if_neg (by omega), if_neg (by omega), if_neg (by omega)]
      simp only [List.cons.injEq, and_true]
      exact ⟨ofNat_eq (by omega), ofNat_eq (by omega), ofNat_eq (by omega), ofNat_eq (by omega)⟩
    · simp only [List.mem_cons, List.not_mem_nil, or_false] at hx
      rcases hx with rfl | rfl | rfl | rfl <;> omega
  · exact absurd (by rw [hN, e]; exact ⟨rfl, rfl⟩) hg

/-- A valid string: a row of good steps. -/
inductive Good : List UInt8 → List Nat → Prop
  | nil : Good [] []
  | step {block rest : List UInt8} {c : Nat} {cs : List Nat} : GoodStep block c → Good rest cs → Good (block ++ rest) (c :: cs)
theorem good_of_valid : ∀ (n : Nat) (l : List UInt8), l.length ≤ n → validD l = true → ∃ cs, Good l cs
  | _, [], _, _ => ⟨[], .nil⟩
  | 0, b :: t, h, _ => by simp at h
  | n + 1, b :: t, h, hv => by
    rw [validD_step _ (by simp)] at hv
    by_cases hg : (decodeL (b :: t)).1 = 65533 ∧ (decodeL (b :: t)).2 = 1
    · rw [if_pos hg] at hv; cases hv
    · rw [if_neg hg] at hv
      obtain ⟨block, rest, c, h1, h2, h3⟩ := step_good (by simp) hg
      rw [h3, h1] at hv
      rw [show (block ++ rest).drop block.length = rest by simp] at hv
      have hl := congrArg List.length h1
      simp only [List.length_cons, List.length_append] at hl h
      have := h2.pos
      obtain ⟨cs, hcs⟩ := good_of_valid n rest (by omega) hv
      exact ⟨c :: cs, h1 ▸ .step h2 hcs⟩

/-- What firstPoint reads. -/
def firstP (l : List UInt8) : List UInt8 := l.take (decodeL l).2
/-- What follows each hyphen, by bytes. -/
def scanP : List UInt8 → List UInt8
  | [] => []
  | b :: t => (if b = 45 ∧ t ≠ [] then 45 :: firstP t else []) ++ scanP t
/-- What follows each hyphen, by runes. -/
noncomputable def hyph : List Nat → List UInt8
  | [] => []
  | d :: _ => 45 :: (encN d).data.toList
noncomputable def scanR : List Nat → List UInt8
  | [] => []
  | c :: t => (if c = 45 then hyph t else []) ++ scanR t
theorem GoodStep.first {block : List UInt8} {c : Nat} (h : GoodStep block c) (rest : List UInt8) : firstP (block ++ rest) = (encN c).data.toList := by
  have e1 : firstP (block ++ rest) = block := by
    unfold firstP
    rw [h.dec]
    exact List.take_left
  exact e1.trans h.enc.symm
theorem good_first {l : List UInt8} {c : Nat} {cs : List Nat} (h : Good l (c :: cs)) : firstP l = (encN c).data.toList := by
  cases h with
  | step h1 h2 => exact h1.first _
theorem toNat45 : (45 : UInt8).toNat = 45 := by simp
theorem scanP_block {block : List UInt8} (rest : List UInt8) (h : ∀ x ∈ block, 128 ≤ x.toNat) : scanP (block ++ rest) = scanP rest := by
  induction block with
  | nil => rfl
  | cons b t ih =>
    have hb := h b (by simp)
    have hne : ¬ (b = 45 ∧ t ++ rest ≠ []) := fun e => by
      rw [e.1, toNat45] at hb
      omega
    rw [List.cons_append, scanP, if_neg hne, List.nil_append]
    exact ih (fun x hx => h x (List.mem_cons_of_mem _ hx))
theorem good_nil {l : List UInt8} {cs : List Nat} (h : Good l cs) : l = [] ↔ cs = [] := by
  cases h with
  | nil => simp
  | step h1 _ =>
    have := h1.pos
    constructor
    · intro e
      rw [List.append_eq_nil_iff] at e
      rw [e.1] at this
      simp at this
    · intro e; cases e
theorem good_scan {l : List UInt8} {cs : List Nat} (h : Good l cs) : scanP l = scanR cs := by
  induction h with
  | nil => rfl
  | @step block rest c cs h1 h2 ih =>
    rcases h1.kind with ⟨b, rfl, hb, hc⟩ | ⟨hc, hx⟩
    · rw [List.singleton_append, scanP, scanR, ih]
      congr 1
      by_cases h45 : c = 45
      · have hb45 : b = 45 := by
          apply UInt8.toNat_inj.1
          rw [hb, h45]; rfl
        rw [if_pos h45]
        cases h2 with
        | nil => simp [hyph]
        | @step b2 r2 d ds g1 g2 =>
          have hne : b2 ++ r2 ≠ [] := fun e => by
            rw [List.append_eq_nil_iff] at e
            have := g1.pos
            rw [e.1] at this
            simp at this
          rw [if_pos ⟨hb45, hne⟩, good_first (.step g1 g2), hyph]
      · rw [if_neg h45, if_neg (fun e => h45 (by rw [← hb, e.1]; rfl))]
    · rw [scanP_block rest hx, scanR, if_neg (by omega), List.nil_append, ih]

/-- A space parts a valid string in two. -/
theorem good_split {l : List UInt8} {cs : List Nat} (h : Good l cs) : ∀ {a r : List UInt8}, l = a ++ 32 :: r → ∃ c1 c2, Good a c1 ∧ Good r c2 := by
  induction h with
  | nil => intro a r e; simp at e
  | @step block rest c cs h1 h2 ih =>
    intro a r e
    have hp := h1.pos
    rcases h1.kind with ⟨b, rfl, hb, hc⟩ | ⟨hc, hx⟩
    · cases a with
      | nil =>
        simp only [List.singleton_append, List.nil_append, List.cons.injEq] at e
        rw [← e.2]
        exact ⟨[], cs, .nil, h2⟩
      | cons x a =>
        simp only [List.cons_append, List.cons.injEq, List.nil_append] at e
        obtain ⟨c1, c2, g1, g2⟩ := ih e.2
        rw [← e.1]
        exact ⟨c :: c1, c2, .step h1 g1, g2⟩
    · -- the block holds no space
      have hlen : block.length ≤ a.length := by
        rcases Nat.lt_or_ge a.length block.length with hlt | hge
        · exfalso
          have h3 : (block ++ rest)[a.length]? = some 32 := by rw [e]; simp
          rw [List.getElem?_append_left hlt] at h3
          have h7 := hx _ (List.mem_of_getElem? h3)
          have : (32 : UInt8).toNat = 32 := rfl
          omega
        · exact hge
      have ha : a = block ++ a.drop block.length := by
        have h4 := congrArg (List.take block.length) e
        rw [List.take_left, List.take_append_of_le_length hlen] at h4
        have h6 := List.take_append_drop block.length a
        rw [← h4] at h6
        exact h6.symm
      have hr : rest = a.drop block.length ++ 32 :: r := by
        have h5 := congrArg (List.drop block.length) e
        rw [List.drop_left, List.drop_append_of_le_length hlen] at h5
        exact h5
      obtain ⟨c1, c2, g1, g2⟩ := ih hr
      rw [ha]
      exact ⟨c :: c1, c2, .step h1 g1, g2⟩
end Go.Proofs.YtbpbhpmkganefaaDoor
