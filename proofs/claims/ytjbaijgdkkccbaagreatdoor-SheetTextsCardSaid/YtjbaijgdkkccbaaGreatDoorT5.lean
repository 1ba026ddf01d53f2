/- Answers as text: what the program writes is what the reference writes. No program in sight. -/
import Derived.Test.YtjbaijgdkkccbaaGreatDoorKb
import Derived.Test.YtjbaijgdkkccbaaGreatDoorFr
import Derived.Lib.Join
import Derived.Lib.Atoi
import Derived.Lib.IndexMore
import Derived.Test.YtjbaijgdkkccbaaGreatDoorQc
import Derived.Lib.SplitLaws
namespace Go.Proofs.YtjbaijgdkkccbaaGreatDoor
open Go.RowKit

/-- Words of a line, with its end. -/
def lineW (ws : List ByteArray) : List UInt8 := Lib.join (ws.map (·.data.toList)) [32] ++ [10]
def nlB : ByteArray := ⟨#[10]⟩
def spB : ByteArray := ⟨#[32]⟩
theorem size_list (s : ByteArray) : s.size = s.data.toList.length := rfl
theorem cat_data (a b : ByteArray) : (catR a b).data.toList = a.data.toList ++ b.data.toList := by
  show (a ++ b).data.toList = _
  rw [ByteArray.data_append, Array.toList_append]
theorem empty_data {s : ByteArray} (h : s.size = 0) : s = ⟨#[]⟩ := Go.WideShapes.bytes_inj (List.eq_nil_of_length_eq_zero (by rw [← size_list]; exact h))
end Go.Proofs.YtjbaijgdkkccbaaGreatDoor

/- Sheets as text: what is written, what is read, numbers. No program in sight. -/
namespace Go.Proofs.YtjbaijgdkkccbaaGreatDoor
open Go.RowKit

def needB : ByteArray := ⟨#[110, 101, 101, 100, 101, 100]⟩
def secrB : ByteArray := ⟨#[115, 101, 99, 114, 101, 116]⟩
def scorB : ByteArray := ⟨#[115, 99, 111, 114, 101]⟩
def choiB : ByteArray := ⟨#[99, 104, 111, 105, 99, 101]⟩
def wordB : ByteArray := ⟨#[119, 111, 114, 100, 115]⟩
def emptB : ByteArray := ⟨#[]⟩
def kindW (k : Int) : ByteArray := if k = 1 then scorB else if k = 2 then choiB else if k = 3 then wordB else emptB
/-- The words of a question's line, as the program writes them. -/
def headQ (q : Qst) : List ByteArray := (if q.needed then [needB] else []) ++ (if q.secret then [secrB] else []) ++ [kindW q.kind, q.key]
def wordsQ (q : Qst) : List ByteArray := headQ q ++ (if q.kind = 2 then q.opts else [itoaB q.most])
def sheetL (xs : List Qst) : List UInt8 := xs.flatMap fun q => lineW (wordsQ q)
/-- A question that can be written. -/
structure QFit (q : Qst) : Prop where
  lo : 1 ≤ q.kind
  hi : q.kind ≤ 3
  key : q.key.size ≤ 64
  many : q.opts.length ≤ 20
  opts : ∀ o ∈ q.opts, o.size ≤ 64
  none : q.kind ≠ 2 → q.opts = []
  most1 : -2000000000000 ≤ q.most
  most2 : q.most ≤ 2000000000000
theorem lineW_le (ws : List ByteArray) : (lineW ws).length ≤ (ws.map fun w => w.size + 1).sum + 1 := by
  cases ws with
  | nil => simp [lineW, Lib.join, List.intercalate]
  | cons x r =>
    unfold lineW
    rw [List.map_cons, Lib.join_cons, List.length_append, List.length_append, Lib.joinTail_length, List.map_cons, List.sum_cons]
    have h : ∀ r : List ByteArray, Lib.lens (r.map (·.data.toList)) + r.length = (r.map fun w => w.size + 1).sum := by
      intro r
      induction r with
      | nil => rfl
      | cons y r ih => simp only [Lib.lens, List.map_cons, List.sum_cons, List.length_cons] at ih ⊢; have := size_list y; omega
    have h1 := h r
    have h2 := size_list x
    rw [List.length_map]
    simp only [List.length_cons, List.length_nil] at *
    omega
theorem sum_le (f : ByteArray → Nat) (c : Nat) : ∀ l : List ByteArray, (∀ x ∈ l, f x ≤ c) → (l.map f).sum ≤ c * l.length
  | [], _ => by simp
  | x :: l, h => by
    have h1 := sum_le f c l (fun y hy => h y (List.mem_cons_of_mem _ hy))
    have h2 := h x (by simp)
    rw [List.map_cons, List.sum_cons, List.length_cons, Nat.mul_succ]
    omega
theorem itoaB_size (n : Int) (h0 : -2000000000000 ≤ n) (h1 : n ≤ 2000000000000) : (itoaB n).size ≤ 21 := itoa_size n (by omega) (by omega)
theorem kindW_size (k : Int) : (kindW k).size ≤ 6 := by
  unfold kindW
  split
  · decide
  · split
    · decide
    · split <;> decide
theorem headQ_sum (q : Qst) : ((headQ q).map fun w => w.size + 1).sum ≤ 22 + q.key.size := by
  have h := kindW_size q.kind
  have hn : needB.size = 6 := rfl
  have hs : secrB.size = 6 := rfl
  unfold headQ
  cases q.needed <;> cases q.secret <;> simp [hn, hs] <;> omega
theorem headQ_len (q : Qst) : (headQ q).length ≤ 4 := by
  unfold headQ
  cases q.needed <;> cases q.secret <;> simp
theorem wordsQ_len {q : Qst} (h : QFit q) : (wordsQ q).length ≤ 30 := by
  have h1 := headQ_len q
  have h2 := h.many
  unfold wordsQ
  rw [List.length_append]
  split <;> simp <;> omega
theorem lineQ_len {q : Qst} (h : QFit q) : (lineW (wordsQ q)).length ≤ 1500 := by
  have h0 := lineW_le (wordsQ q)
  have h1 := headQ_sum q
  have h2 := h.key
  have h3 := sum_le (fun w => w.size + 1) 65 q.opts (fun x hx => by have := h.opts x hx; show x.size + 1 ≤ 65; omega)
  have h4 := h.many
  have h5 := itoaB_size q.most h.most1 h.most2
  have h6 : ((wordsQ q).map fun w => w.size + 1).sum = ((headQ q).map fun w => w.size + 1).sum + ((if q.kind = 2 then q.opts else [itoaB q.most]).map fun w => w.size + 1).sum := by unfold wordsQ; rw [List.map_append, List.sum_append]
  have h7 : ((if q.kind = 2 then q.opts else [itoaB q.most]).map fun w => w.size + 1).sum ≤ 1300 := by
    split
    · omega
    · simp; omega
  omega
theorem sheetL_le : ∀ xs : List Qst, (∀ q ∈ xs, QFit q) → (sheetL xs).length ≤ 1500 * xs.length
  | [], _ => by simp [sheetL]
  | q :: xs, h => by
    have h1 := sheetL_le xs (fun y hy => h y (List.mem_cons_of_mem _ hy))
    have h2 := lineQ_len (h q (by simp))
    unfold sheetL at *
    rw [List.flatMap_cons, List.length_append, List.length_cons, Nat.mul_succ]
    omega
theorem sheetL_succ {xs : List Qst} {k : Nat} {q : Qst} (h : xs.take (k + 1) = xs.take k ++ [q]) : sheetL (xs.take (k + 1)) = sheetL (xs.take k) ++ lineW (wordsQ q) := by
  unfold sheetL; rw [h, List.flatMap_append]; simp
theorem sheetL_take (xs : List Qst) (k : Nat) : (sheetL (xs.take k)).length ≤ (sheetL xs).length := by
  conv => rhs; rw [← List.take_append_drop k xs]
  unfold sheetL
  rw [List.flatMap_append, List.length_append]; omega
theorem isKeyB_size {s : ByteArray} (h : isKeyB s = true) : s.size ≤ 64 := by
  have h1 : isKey s := by simpa [isKeyB] using h
  have h2 := h1.2.2
  omega
theorem orderG_keysT : ∀ (l seen : List ByteArray), orderG seen l = 0 → ∀ a ∈ l, isKeyB a = true
  | [], _, _, a, ha => nomatch ha
  | p :: l, seen, h, a, ha => by
    rw [orderG_cons] at h
    cases hp : isKeyB p with
    | false => rw [if_pos hp] at h; exact absurd h (by decide)
    | true =>
      rw [if_neg (by rw [hp]; decide)] at h
      split at h
      · exact absurd h (by decide)
      · rcases List.mem_cons.1 ha with rfl | hb
        · exact hp
        · exact orderG_keysT l _ h a hb
theorem questF_fitT {q : Qst} (hk : isKeyB q.key = true) (h : questF q = 0) : QFit q := by
  unfold questF at h
  split at h
  · exact absurd h (by decide)
  rename_i h1
  split at h
  · exact absurd h (by decide)
  rename_i h2
  split at h
  · exact absurd h (by decide)
  rename_i h3
  split at h
  · exact absurd h (by decide)
  rename_i h4
  have h6 : (q.kind = 1 ∨ q.kind = 3) ∨ q.kind = 2 := by omega
  refine ⟨by omega, by omega, isKeyB_size hk, by omega, fun o ho => isKeyB_size (orderG_keysT _ _ h o ho), fun e => List.eq_nil_of_length_eq_zero (by omega), by omega, by omega⟩
theorem sheetG_fitT (all : List Qst) : ∀ (l : List Qst) (i : Nat), sheetG all i l = 0 → ∀ q ∈ l, QFit q
  | [], _, _, q, hq => nomatch hq
  | x :: l, i, h, q, hq => by
    rw [sheetG_cons] at h
    cases hk : isKeyB x.key with
    | false => rw [if_pos hk] at h; exact absurd h (by decide)
    | true =>
      rw [if_neg (by rw [hk]; decide)] at h
      split at h
      · exact absurd h (by decide)
      · split at h
        · rename_i hne
          exact absurd h hne
        · rename_i hne
          rcases List.mem_cons.1 hq with rfl | hb
          · exact questF_fitT hk (Classical.not_not.1 hne)
          · exact sheetG_fitT all l _ h q hb
theorem sheetF_fitT {xs : List Qst} (h : sheetF xs = 0) : (∀ q ∈ xs, QFit q) ∧ xs.length ≤ 30 := by
  unfold sheetF at h
  split at h
  · exact absurd h (by decide)
  · split at h
    · exact absurd h (by decide)
    · exact ⟨sheetG_fitT _ _ _ h, by omega⟩

/-- The number that a word spells, of at most 9 digits. -/
def isDg (b : UInt8) : Bool := decide (48 ≤ b.toNat) && decide (b.toNat ≤ 57)
def digitsOf (s : ByteArray) : List UInt8 := Lib.trimPrefix s.data.toList [45]
def numOk (s : ByteArray) : Bool := decide ((digitsOf s) ≠ []) && decide ((digitsOf s).length ≤ 9) && !(decide ((digitsOf s).head? = some 48) && decide (s.data.toList ≠ [48])) && (digitsOf s).all isDg
def numF (s : ByteArray) : Option Int := if numOk s then Lib.atoi s.data.toList else none
theorem isDg_val {b : UInt8} (h : isDg b = true) : Lib.digitVal b = some (b.toNat - 48) := by
  simp [isDg] at h
  rw [Lib.digitVal, if_pos h]
theorem decFrom_all : ∀ (l : List UInt8) (acc : Nat), l.all isDg = true → ∃ n, Lib.decFrom acc l = some n
  | [], acc, _ => ⟨acc, rfl⟩
  | b :: l, acc, h => by
    simp only [List.all_cons, Bool.and_eq_true] at h
    rw [Lib.decFrom, isDg_val h.1]
    exact decFrom_all l _ h.2
theorem decFrom_snoc (b : UInt8) (h : isDg b = true) : ∀ (l : List UInt8) (acc n : Nat), Lib.decFrom acc l = some n → Lib.decFrom acc (l ++ [b]) = some (n * 10 + (b.toNat - 48))
  | [], acc, n, hn => by
    simp only [Lib.decFrom, Option.some.injEq] at hn
    subst hn
    simp [Lib.decFrom, isDg_val h]
  | x :: l, acc, n, hn => by
    rw [List.cons_append]
    rw [Lib.decFrom] at hn ⊢
    cases hx : Lib.digitVal x with
    | none => rw [hx] at hn; exact (nomatch hn)
    | some d => rw [hx] at hn; exact decFrom_snoc b h l _ n hn
theorem decDigits_step {u : Nat} (h : ¬ u < 10) : Lib.decDigits u = Lib.decDigits (u / 10) ++ [UInt8.ofNat (48 + u % 10)] := by
  rw [Lib.decDigits, dif_neg h]
theorem ofNat_dg {b : UInt8} (h : isDg b = true) : UInt8.ofNat (48 + (b.toNat - 48)) = b := by
  simp [isDg] at h
  rw [show 48 + (b.toNat - 48) = b.toNat by omega]
  simp
theorem head_pos : ∀ (l : List UInt8) (b : UInt8) (n : Nat), l.all isDg = true → isDg b = true → b ≠ 48 → Lib.decFrom 0 (b :: l) = some n → 1 ≤ n := by
  intro l b n hl hb hne h
  rw [Lib.decFrom, isDg_val hb] at h
  have h48 : b.toNat ≠ 48 := fun e => hne (UInt8.toNat_inj.1 (by rw [e]; rfl))
  have h49 : 48 ≤ b.toNat := by simp [isDg] at hb; exact hb.1
  have key : ∀ (l : List UInt8) (acc m : Nat), Lib.decFrom acc l = some m → acc ≤ m := by
    intro l
    induction l with
    | nil => intro acc m h; simp only [Lib.decFrom, Option.some.injEq] at h; omega
    | cons x l ih =>
      intro acc m h
      rw [Lib.decFrom] at h
      cases hx : Lib.digitVal x with
      | none => rw [hx] at h; exact (nomatch h)
      | some d => rw [hx] at h; have := ih _ m h; omega
  have := key _ _ _ h
  omega
theorem head_app {l r : List UInt8} (h : l ≠ []) : (l ++ r).head? = l.head? := by
  cases l with
  | nil => exact absurd rfl h
  | cons x l => rfl
/-- What is spelled without a needless 0 is written so. -/
theorem decDigits_back : ∀ (k : Nat) (l : List UInt8) (n : Nat), l.length = k + 1 → l.all isDg = true → (l.head? ≠ some 48 ∨ k = 0) → Lib.decFrom 0 l = some n → Lib.decDigits n = l
  | 0, l, n, hk, ha, _, h => by
    match l, hk with
    | [b], _ => 
      simp only [List.all_cons, List.all_nil, Bool.and_true] at ha
      rw [Lib.decFrom, isDg_val ha] at h
      simp only [Lib.decFrom, Option.some.injEq] at h
      have h57 : b.toNat ≤ 57 := by simp [isDg] at ha; exact ha.2
      rw [Lib.decDigits_one (by omega), ← h]
      rw [show 48 + (0 * 10 + (b.toNat - 48)) = 48 + (b.toNat - 48) by omega, ofNat_dg ha]
  | k + 1, l, n, hk, ha, hh, h => by
    have hne : l ≠ [] := fun e => by rw [e] at hk; simp at hk
    obtain ⟨r, b, rfl⟩ : ∃ r b, l = r ++ [b] := ⟨l.dropLast, l.getLast hne, (List.dropLast_concat_getLast hne).symm⟩
    rw [List.all_append, Bool.and_eq_true] at ha
    have hb : isDg b = true := by simpa using ha.2
    have hr : r.length = k + 1 := by simp at hk; omega
    have hrn : r ≠ [] := fun e => by rw [e] at hr; simp at hr
    obtain ⟨m, hm⟩ := decFrom_all r 0 ha.1
    rw [decFrom_snoc b hb r 0 m hm] at h
    have h57 : 48 ≤ b.toNat ∧ b.toNat ≤ 57 := by simpa [isDg] using hb
    have hhr : r.head? ≠ some 48 := by
      rcases hh with hh | hh
      · rwa [head_app hrn] at hh
      · exact absurd hh (by omega)
    have hm1 : 1 ≤ m := by
      cases r with
      | nil => exact absurd rfl hrn
      | cons x r =>
        simp only [List.all_cons, Bool.and_eq_true] at ha
        exact head_pos r x m ha.1.2 ha.1.1 (fun e => hhr (by rw [e]; rfl)) hm
    have hn : n = m * 10 + (b.toNat - 48) := (Option.some.inj h).symm
    have ih := decDigits_back k r m hr ha.1 (Or.inl hhr) hm
    rw [decDigits_step (by omega), show n / 10 = m by omega, show n % 10 = b.toNat - 48 by omega, ih, ofNat_dg hb]
theorem decDigits_head : ∀ (f u : Nat), u ≤ f → 1 ≤ u → (Lib.decDigits u).head? ≠ some 48
  | 0, u, h, h1 => by omega
  | f + 1, u, h, h1 => by
    by_cases h10 : u < 10
    · rw [Lib.decDigits_one h10]
      intro e
      have e2 : UInt8.ofNat (48 + u) = 48 := by simpa using e
      have e3 := congrArg UInt8.toNat e2
      rw [UInt8.toNat_ofNat_of_lt' (by show 48 + u < 256; omega), show (48 : UInt8).toNat = 48 from rfl] at e3
      omega
    · rw [decDigits_step h10]
      have h2 := decDigits_head f (u / 10) (by omega) (by omega)
      have h3 : Lib.decDigits (u / 10) ≠ [] := fun e => by
        have := Lib.decDigits_length (u / 10)
        have h4 := Lib.nDigits_pos (u / 10)
        rw [e] at this; simp at this; omega
      rwa [head_app h3]
theorem trim_minus (r : List UInt8) : Lib.trimPrefix (45 :: r) [45] = r := by
  rw [Lib.trimPrefix, if_pos (by simp [Lib.hasPrefix])]; rfl
theorem trim_other {l : List UInt8} (h : l.head? ≠ some 45) : Lib.trimPrefix l [45] = l := by
  rw [Lib.trimPrefix]
  split
  · rename_i hp
    cases l with
    | nil => simp [Lib.hasPrefix] at hp
    | cons x l =>
      simp [Lib.hasPrefix] at hp
      exact absurd (by rw [hp]; rfl) h
  · rfl
theorem digitVal_lt {l : List UInt8} {n : Nat} (h : Lib.decFrom 0 l = some n) (hl : l.length ≤ 9) : n < 1000000000 := by
  have h1 := Lib.decFrom_lt l 0 n h
  have h2 : 10 ^ l.length ≤ 10 ^ 9 := Nat.pow_le_pow_right (by decide) hl
  omega
/-- What digits behind at most one sign spell, and how that is written. -/
theorem atoi_digits {s : ByteArray} (h1 : digitsOf s ≠ []) (h2 : (digitsOf s).length ≤ 9) (h3 : (digitsOf s).all isDg = true) :
    ∃ n, Lib.atoi s.data.toList = some n ∧ -1000000000 < n ∧ n < 1000000000 ∧ s.size ≤ 10 ∧ ((itoaB n).data.toList = s.data.toList ↔ ¬ ((digitsOf s).head? = some 48 ∧ s.data.toList ≠ [48])) := by
  have hsz := size_list s
  obtain ⟨l, hl⟩ : ∃ l, l = s.data.toList := ⟨_, rfl⟩
  unfold digitsOf at h1 h2 h3 ⊢
  rw [← hl] at h1 h2 h3 hsz ⊢
  obtain ⟨m, hm⟩ := decFrom_all _ 0 h3
  have hml := digitVal_lt hm h2
  have hit : ∀ n : Int, (itoaB n).data.toList = Lib.itoa n := fun n => rfl
  by_cases hd : l.head? = some 45
  · obtain ⟨r, rfl⟩ : ∃ r, l = 45 :: r := by
      cases l with
      | nil => exact (nomatch hd)
      | cons x r => simp at hd; exact ⟨r, by rw [hd]⟩
    rw [trim_minus] at h1 h2 h3 hm ⊢
    have hne : r.isEmpty = false := by cases r <;> simp_all
    refine ⟨-(m : Int), ?_, by omega, by omega, by rw [hsz]; simp; omega, ?_⟩
    · have : Lib.decNat r = some m := by rw [Lib.decNat, hne]; exact hm
      simp [Lib.atoi, this]
    · rw [hit]
      obtain ⟨k, hk⟩ : ∃ k, r.length = k + 1 := ⟨r.length - 1, by have := List.length_pos_iff.2 h1; omega⟩
      constructor
      · rintro e ⟨h48, -⟩
        by_cases hm0 : m = 0
        · subst hm0
          have e2 : Lib.itoa (-((0 : Nat) : Int)) = [48] := by rw [Lib.itoa, if_neg (by simp)]; exact Lib.decDigits_one (by decide)
          rw [e2] at e
          simp at e
        · rw [Lib.itoa, if_pos (by omega)] at e
          have e2 : Lib.decDigits m = r := by have := (List.cons.inj e).2; rwa [show (-(m : Int)).natAbs = m by omega] at this
          exact decDigits_head m m (Nat.le_refl _) (by omega) (by rw [e2]; exact h48)
      · intro hc
        have h48 : r.head? ≠ some 48 := fun e => hc ⟨e, by simp⟩
        have hm1 : 1 ≤ m := by
          cases r with
          | nil => exact absurd rfl h1
          | cons x r =>
            simp only [List.all_cons, Bool.and_eq_true] at h3
            exact head_pos r x m h3.2 h3.1 (fun e => h48 (by rw [e]; rfl)) hm
        rw [Lib.itoa, if_pos (by omega), show (-(m : Int)).natAbs = m by omega, decDigits_back k r m hk h3 (Or.inl h48) hm]
  · rw [trim_other hd] at h1 h2 h3 hm ⊢
    have hne : l.isEmpty = false := by cases l <;> simp_all
    refine ⟨(m : Int), ?_, by omega, by omega, by rw [hsz]; omega, ?_⟩
    · have hdn : Lib.decNat l = some m := by rw [Lib.decNat, hne]; exact hm
      cases l with
      | nil => exact absurd rfl h1
      | cons x r =>
        have hx45 : x ≠ 45 := fun e => hd (by rw [e]; rfl)
        have hx43 : x ≠ 43 := fun e => by
          rw [e] at h3
          simp [isDg] at h3
        rw [Lib.atoi, if_neg (by simpa using hx45), if_neg (by simpa using hx43), hdn]; rfl
    · rw [hit]
      obtain ⟨k, hk⟩ : ∃ k, l.length = k + 1 := ⟨l.length - 1, by have := List.length_pos_iff.2 h1; omega⟩
      rw [Lib.itoa, if_neg (by omega), show ((m : Nat) : Int).toNat = m by omega]
      constructor
      · rintro e ⟨h48, hn48⟩
        by_cases hm0 : m = 0
        · subst hm0
          rw [Lib.decDigits_one (by decide)] at e
          exact hn48 e.symm
        · exact decDigits_head m m (Nat.le_refl _) (by omega) (by rw [e]; exact h48)
      · intro hc
        by_cases h48 : l.head? = some 48
        · have he : l = [48] := Classical.not_not.1 (fun e => hc ⟨h48, e⟩)
          subst he
          exact decDigits_back 0 [48] m rfl h3 (Or.inr rfl) hm
        · exact decDigits_back k l m hk h3 (Or.inl h48) hm
end Go.Proofs.YtjbaijgdkkccbaaGreatDoor

/- Reading a sheet: words of a line, lines of a text. No program in sight. -/
namespace Go.Proofs.YtjbaijgdkkccbaaGreatDoor
open Go.RowKit

def rowsB (sep s : ByteArray) : List ByteArray := Lib.splitB sep 0 (Lib.countB s sep) s
theorem rowsB_len (sep s : ByteArray) (h1 : 1 ≤ sep.size) : (rowsB sep s).length = Lib.countB s sep + 1 := Lib.splitB_all sep h1 0 _ s rfl
theorem rowsB_le (sep s : ByteArray) (h1 : 1 ≤ sep.size) : (rowsB sep s).length ≤ s.size + 1 := by
  have := Lib.countB_le sep h1 _ s (Nat.le_refl _)
  rw [rowsB_len sep s h1]; omega
theorem rowsB_ne (sep s : ByteArray) (h1 : 1 ≤ sep.size) : rowsB sep s ≠ [] := fun e => by
  have := rowsB_len sep s h1
  rw [e] at this; simp at this
theorem splitB_size (sep : ByteArray) : ∀ (k : Nat) (s : ByteArray), ∀ x ∈ Lib.splitB sep 0 k s, x.size ≤ s.size
  | 0, s, x, hx => by
    rw [Lib.splitB_zero] at hx
    rw [List.mem_singleton.1 hx]; exact Nat.le_refl _
  | k + 1, s, x, hx => by
    by_cases h : Lib.indexB s sep = -1
    · rw [Lib.splitB_miss _ _ _ _ h] at hx
      rw [List.mem_singleton.1 hx]; exact Nat.le_refl _
    · have h0 : 0 ≤ Lib.indexB s sep := by
        have h1 : -1 ≤ Lib.indexB s sep := Lib.index_ge _ _
        omega
      obtain ⟨i, hi⟩ := Int.eq_ofNat_of_zero_le h0
      rw [Lib.splitB_hit sep 0 k s i hi] at hx
      rcases List.mem_cons.1 hx with rfl | hx
      · rw [ByteArray.size_extract]; omega
      · have := splitB_size sep k _ x hx
        rw [ByteArray.size_extract] at this; omega
theorem rowsB_size (sep s : ByteArray) : ∀ x ∈ rowsB sep s, x.size ≤ s.size := splitB_size sep _ s
theorem rowsB_miss {sep s : ByteArray} (h : Lib.indexB s sep = -1) : rowsB sep s = [s] := by
  rw [rowsB, Lib.countB_miss _ _ h]; rfl
theorem rowsB_hit {sep s : ByteArray} {i : Nat} (h1 : sep.size = 1) (h : Lib.indexB s sep = i) : rowsB sep s = s.extract 0 i :: rowsB sep (s.extract (i + 1) s.size) := by
  have hc := Lib.countB_hit s sep i (by omega) h
  rw [h1] at hc
  rw [rowsB, hc, Nat.add_comm, Lib.splitB_hit sep 0 _ s i h, h1]; rfl

def flagAt (k : ByteArray) (ws : List ByteArray) : Bool := decide (ws.head? = some k)
def dropF (k : ByteArray) (ws : List ByteArray) : List ByteArray := if flagAt k ws then ws.tail else ws
def kindN (k : ByteArray) : Int := if k = scorB then 1 else if k = choiB then 2 else if k = wordB then 3 else 0
theorem kindN_in (k : ByteArray) : kindN k = 0 ∨ kindN k = 1 ∨ kindN k = 2 ∨ kindN k = 3 := by
  unfold kindN
  split
  · exact Or.inr (Or.inl rfl)
  · split
    · exact Or.inr (Or.inr (Or.inl rfl))
    · split
      · exact Or.inr (Or.inr (Or.inr rfl))
      · exact Or.inl rfl
/-- What a line says behind its flags. -/
def bodyW (n s : Bool) : List ByteArray → Option Qst
  | k :: key :: r => if kindN k = 0 then none else if kindN k = 2 then some ⟨key, 2, 0, r, n, s⟩ else match r with
    | [x] => (numF x).map fun m => ⟨key, kindN k, m, [], n, s⟩
    | _ => none
  | _ => none
/-- The question that words are. -/
noncomputable def readW (ws : List ByteArray) : Option Qst :=
  if memB emptB ws = true then none else bodyW (flagAt needB ws) (flagAt secrB (dropF needB ws)) (dropF secrB (dropF needB ws))
noncomputable def readQ (s : ByteArray) : Option Qst := readW (rowsB spB s)
theorem dropF_drop (k : ByteArray) (ws : List ByteArray) : dropF k ws = ws.drop (if flagAt k ws then 1 else 0) := by
  unfold dropF
  split <;> simp

/-- What lines say, from line i on: the first that is none, or the questions. -/
noncomputable def readG (ended : Bool) : Nat → List ByteArray → Sum Nat (List Qst)
  | _, [] => .inr []
  | i, r :: rs => match readQ r with
    | none => .inl i
    | some q => if ended = false ∧ rs = [] then .inl i else match readG ended (i + 1) rs with
      | .inl j => .inl j
      | .inr l => .inr (q :: l)
def glue (xs : List Qst) : Sum Nat (List Qst) → Sum Nat (List Qst)
  | .inl j => .inl j
  | .inr l => .inr (xs ++ l)
theorem glue_nil (r : Sum Nat (List Qst)) : glue [] r = r := by cases r <;> rfl
theorem glue_glue (xs ys : List Qst) (r : Sum Nat (List Qst)) : glue xs (glue ys r) = glue (xs ++ ys) r := by
  cases r with
  | inl j => rfl
  | inr l => simp [glue]
theorem readG_none {ended : Bool} {i : Nat} {r : ByteArray} {rs : List ByteArray} (h : readQ r = none) : readG ended i (r :: rs) = .inl i := by rw [readG, h]
theorem readG_last {i : Nat} {r : ByteArray} : readG false i [r] = .inl i := by
  rw [readG]
  cases readQ r with
  | none => rfl
  | some q => simp
theorem readG_some {ended : Bool} {i : Nat} {r : ByteArray} {rs : List ByteArray} {q : Qst} (h : readQ r = some q) (h2 : ¬ (ended = false ∧ rs = [])) : readG ended i (r :: rs) = glue [q] (readG ended (i + 1) rs) := by
  rw [readG, h]
  simp only [if_neg h2]
  cases readG ended (i + 1) rs <;> rfl
/-- The walk over lines up to line k. -/
def ReadAt (ended : Bool) (rows : List ByteArray) (k : Nat) (xs : List Qst) : Prop := xs.length = k ∧ readG ended 0 rows = glue xs (readG ended k (rows.drop k))
section
variable {ended : Bool} {rows : List ByteArray} {k : Nat} {xs : List Qst} {r : ByteArray} {q : Qst}
theorem ReadAt.zero (ended : Bool) (rows : List ByteArray) : ReadAt ended rows 0 [] := ⟨rfl, by rw [glue_nil]; rfl⟩
theorem ReadAt.bad (h : ReadAt ended rows k xs) (hr : rows[k]? = some r) (hq : readQ r = none) : readG ended 0 rows = .inl k := by
  rw [h.2, drop_at hr, readG_none hq]; rfl
theorem ReadAt.last (h : ReadAt ended rows k xs) (hr : rows[k]? = some r) (he : ended = false) (hk : k + 1 = rows.length) : readG ended 0 rows = .inl k := by
  rw [h.2, drop_at hr, List.drop_of_length_le (by omega), he, readG_last]; rfl
theorem ReadAt.next (h : ReadAt ended rows k xs) (hr : rows[k]? = some r) (hq : readQ r = some q) (hn : ¬ (ended = false ∧ k + 1 = rows.length)) : ReadAt ended rows (k + 1) (xs ++ [q]) := by
  refine ⟨by simp [h.1], ?_⟩
  have hk := (List.getElem?_eq_some_iff.1 hr).1
  rw [h.2, drop_at hr, readG_some hq (fun e => hn ⟨e.1, by have := congrArg List.length e.2; rw [List.length_drop] at this; simp at this; omega⟩), glue_glue]
theorem ReadAt.ok (h : ReadAt ended rows k xs) (hk : rows.length ≤ k) : readG ended 0 rows = .inr xs := by
  rw [h.2, List.drop_of_length_le hk]; simp [readG, glue]
end

def endedOf (s : ByteArray) : Bool := decide ((rowsB nlB s).getLast? = some emptB)
def linesOf (s : ByteArray) : List ByteArray := if endedOf s then (rowsB nlB s).dropLast else rowsB nlB s
noncomputable def readT (i : Nat) (s : ByteArray) : Sum Nat (List Qst) := readG (endedOf s) i (linesOf s)
theorem rows_nil {s : ByteArray} (h : s.size = 0) : rowsB nlB s = [emptB] := by
  have he : s = emptB := empty_data h
  rw [he]
  exact rowsB_miss (by decide)
theorem hit_lines {s : ByteArray} {k : Nat} (hm : Lib.indexB s nlB = k) : endedOf s = endedOf (s.extract (k + 1) s.size) ∧ linesOf s = s.extract 0 k :: linesOf (s.extract (k + 1) s.size) := by
  have h0 := rowsB_hit (sep := nlB) rfl hm
  have hne := rowsB_ne nlB (s.extract (k + 1) s.size) (by decide)
  have h1 : endedOf s = endedOf (s.extract (k + 1) s.size) := by rw [endedOf, endedOf, h0, List.getLast?_cons_of_ne_nil hne]
  refine ⟨h1, ?_⟩
  rw [linesOf, linesOf, h1, h0]
  split
  · rw [List.dropLast_cons_of_ne_nil hne]
  · rfl
/-- What reading a text as a sheet answers. -/
noncomputable def outL (s : ByteArray) : List Qst := match readT 0 s with | .inl _ => [] | .inr xs => if sheetF xs = 0 then xs else []
noncomputable def outI (s : ByteArray) : Int := match readT 0 s with | .inl k => (k : Int) | .inr _ => 0
noncomputable def outE (s : ByteArray) : Int := match readT 0 s with | .inl _ => 9 | .inr xs => sheetF xs
theorem out_bad {s : ByteArray} {k : Nat} (h : readT 0 s = .inl k) : outL s = [] ∧ outI s = k ∧ outE s = 9 := by
  unfold outL outI outE
  rw [h]; exact ⟨rfl, rfl, rfl⟩
theorem out_ok {s : ByteArray} {xs : List Qst} (h : readT 0 s = .inr xs) : outL s = (if sheetF xs = 0 then xs else []) ∧ outI s = 0 ∧ outE s = sheetF xs := by
  unfold outL outI outE
  rw [h]; exact ⟨rfl, rfl, rfl⟩
end Go.Proofs.YtjbaijgdkkccbaaGreatDoor
