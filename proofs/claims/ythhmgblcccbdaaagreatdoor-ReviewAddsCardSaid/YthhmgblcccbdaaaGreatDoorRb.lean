/- Pairs are compared: cmp.Compare and slices.Compare of strings, ComparePairs, PairOrder. -/
import Derived.Test.YthhmgblcccbdaaaGreatDoorRa
import Derived.Test.YthhmgblcccbdaaaGreatDoorZc
import Derived.Test.YthhmgblcccbdaaaGreatDoorSj
import Derived.Sort.Grow
namespace Go.Proofs.YthhmgblcccbdaaaGreatDoor
open Go.RowKit

theorem bl_asymm {a b : List UInt8} (h : Op.bytesLess a b = true) : Op.bytesLess b a = false := by
  cases hb : Op.bytesLess b a
  · rfl
  · have := bl_trans h hb
    rw [bl_irrefl] at this
    cases this
theorem cmp_vals : ∀ (a b : List UInt8), Lib.compareBytes a b = -1 ∨ Lib.compareBytes a b = 0 ∨ Lib.compareBytes a b = 1
  | [], [] => by simp [Lib.compareBytes]
  | [], _ :: _ => by simp [Lib.compareBytes]
  | _ :: _, [] => by simp [Lib.compareBytes]
  | x :: a, y :: b => by
    simp only [Lib.compareBytes]
    split
    · simp
    · split
      · simp
      · exact cmp_vals a b
theorem cmp_swap : ∀ (a b : List UInt8), Lib.compareBytes b a = - Lib.compareBytes a b
  | [], [] => by simp [Lib.compareBytes]
  | [], _ :: _ => by simp [Lib.compareBytes]
  | _ :: _, [] => by simp [Lib.compareBytes]
  | x :: a, y :: b => by
    simp only [Lib.compareBytes]
    by_cases h1 : x < y
    · have h2 : ¬ y < x := by rw [UInt8.lt_iff_toNat_lt] at *; omega
      simp [h1, h2]
    · by_cases h2 : y < x
      · simp [h1, h2]
      · simp [h1, h2, cmp_swap a b]
theorem cmp_lt {a b : ByteArray} (h : Op.bytesLess a.toList b.toList = true) : Lib.compareBytes a.data.toList b.data.toList = -1 := by
  rw [tl_data, tl_data] at h
  have := (cmp_neg a.data.toList b.data.toList).2 h
  have := cmp_vals a.data.toList b.data.toList
  omega
theorem cmp_gt {a b : ByteArray} (h : Op.bytesLess b.toList a.toList = true) : Lib.compareBytes a.data.toList b.data.toList = 1 := by
  have := cmp_lt h
  rw [cmp_swap, this]; rfl
theorem cmp_eq {a b : ByteArray} (h1 : Op.bytesLess a.toList b.toList = false) (h2 : Op.bytesLess b.toList a.toList = false) : Lib.compareBytes a.data.toList b.data.toList = 0 := by
  rw [cmp_zero, ← tl_data, ← tl_data]
  apply Classical.byContradiction
  intro hn
  rw [bl_total h1 hn] at h2
  cases h2

theorem isNaN_any (x : ByteArray) (w : World) : Calls Tryz.prog 177 #[.string x] w fun e w' => e = .returned (.bool false) ∧ w = w' := by
  have h : (x.toList != x.toList) = false := by simp
  go_enter Tryz.func177, Tryz.ntmps177
  go_wp2
  go_ret
  exact ⟨by simp, rfl⟩
theorem cmpStr_any (a b : ByteArray) (w : World) : Calls Tryz.prog 137 #[.string a, .string b] w fun e w' => e = .returned (.int .i64 (Lib.compareBytes a.data.toList b.data.toList)) ∧ w = w' := by
  cases h1 : Op.bytesLess a.toList b.toList
  · cases h2 : Op.bytesLess b.toList a.toList
    · have he := Lib.hid (cmp_eq h1 h2)
      have heq : (a.toList == b.toList) = true := by
        have := (cmp_zero _ _).1 he.out
        rw [tl_data, tl_data, this]; simp
      go_enter Tryz.func137, Tryz.ntmps137
      go_wp2_with fail
      refine (isNaN_any _ _).mono ?_
      rintro e w' ⟨rfl, rfl⟩
      go_wp2_with fail
      refine (isNaN_any _ _).mono ?_
      rintro e w' ⟨rfl, rfl⟩
      go_wp2_with fail
      go_ret
      exact ⟨ret_int' he.out.symm, rfl⟩
    · have he := Lib.hid (cmp_gt h2)
      have heq : (a.toList == b.toList) = false := by
        rw [beq_eq_false_iff_ne]
        intro e
        rw [e, bl_irrefl] at h2
        cases h2
      go_enter Tryz.func137, Tryz.ntmps137
      go_wp2_with fail
      refine (isNaN_any _ _).mono ?_
      rintro e w' ⟨rfl, rfl⟩
      go_wp2_with fail
      refine (isNaN_any _ _).mono ?_
      rintro e w' ⟨rfl, rfl⟩
      go_wp2_with fail
      go_ret
      exact ⟨ret_int' he.out.symm, rfl⟩
  · have he := Lib.hid (cmp_lt h1)
    go_enter Tryz.func137, Tryz.ntmps137
    go_wp2_with fail
    refine (isNaN_any _ _).mono ?_
    rintro e w' ⟨rfl, rfl⟩
    go_wp2_with fail
    refine (isNaN_any _ _).mono ?_
    rintro e w' ⟨rfl, rfl⟩
    go_wp2_with fail
    go_ret
    exact ⟨ret_int' he.out.symm, rfl⟩

/-- Lists of strings are compared. -/
def cmpS : List ByteArray → List ByteArray → Int
  | [], [] => 0
  | [], _ :: _ => -1
  | _ :: _, [] => 1
  | a :: l, b :: k => if Lib.compareBytes a.data.toList b.data.toList ≠ 0 then Lib.compareBytes a.data.toList b.data.toList else cmpS l k
theorem cmpS_pair (a1 a2 b1 b2 : ByteArray) : cmpS [a1, a2] [b1, b2] = cmpP a1 a2 b1 b2 := by
  simp only [cmpS, cmpP]
  split
  · rfl
  · split
    · rfl
    · rename_i h; exact (Decidable.of_not_not h).symm
set_option maxHeartbeats 800000 in
theorem compareS_any (a1 : Option Addr) (n c1 : Nat) (a2 : Option Addr) (c2 : Nat) (ss ts : List ByteArray) (w : World) (hs : Sl RStr 1 (fun _ => True) w a1 n ss) (ht : Sl RStr 1 (fun _ => True) w a2 n ts) (hl : n ≤ 1000000) :
    Calls Tryz.prog 95 #[.slice a1 n c1, .slice a2 n c2] w fun e w' => e = .returned (.int .i64 (cmpS ss ts)) ∧ w = w' := by
  have Hs := Lib.hid hs.len
  have Ht := Lib.hid ht.len
  go_enter Tryz.func95, Tryz.ntmps95
  go_wp2_with fail
  go_loop [11] (fun i => ∃ k : Nat, k ≤ n ∧ i = .int .i64 k ∧ cmpS ss ts = cmpS (ss.drop k) (ts.drop k)) (fun i => n - (intOf i).toNat)
  case atStart => exact ⟨0, Nat.zero_le _, rfl, by simp⟩
  case round =>
    obtain ⟨k, hk, rfl, hat⟩ := hrel
    have HA := Lib.hid hat
    clear hat
    by_cases hlt : k < n
    · obtain ⟨b1, o1, y1, ha1, -, cy1, -, hy1, -, -⟩ := hs.atStr hlt
      obtain ⟨b2, o2, y2, ha2, -, cy2, -, hy2, -, -⟩ := ht.atStr hlt
      subst ha1
      subst ha2
      have hge : decide ((n : Int) ≤ (k : Int)) = false := by simp; omega
      have HY := Lib.hid (And.intro hy1 hy2)
      clear hy1 hy2
      by_cases h0 : Lib.compareBytes y1.data.toList y2.data.toList = 0
      · have hn := Lib.hid (show cmpS ss ts = cmpS (ss.drop (k + 1)) (ts.drop (k + 1)) by rw [HA.out, drop_at HY.out.1, drop_at HY.out.2, cmpS, if_neg (by simp [h0])])
        go_wp2_with fail
        refine (cmpStr_any _ _ _).mono ?_
        rintro e w' ⟨rfl, rfl⟩
        rw [h0]
        clear h0
        go_wp2_with fail
        go_round
        case rel => exact ⟨k + 1, by omega, by go_num, hn.out⟩
        case measure => simp [intOf]; omega
      · have hn := Lib.hid (show cmpS ss ts = Lib.compareBytes y1.data.toList y2.data.toList by rw [HA.out, drop_at HY.out.1, drop_at HY.out.2, cmpS, if_pos h0])
        have hne : (Lib.compareBytes y1.data.toList y2.data.toList != 0) = true := by simpa using h0
        go_wp2_with fail
        refine (cmpStr_any _ _ _).mono ?_
        rintro e w' ⟨rfl, rfl⟩
        clear h0
        go_wp2_with fail
        go_ret
        exact ⟨ret_int' hn.out.symm, rfl⟩
    · have hd : decide ((k : Int) < (n : Int)) = false := by simp; omega
      have hn := Lib.hid (show cmpS ss ts = 0 by rw [HA.out, List.drop_of_length_le (by have := Hs.out; omega), List.drop_of_length_le (by have := Ht.out; omega)]; rfl)
      go_wp2_with fail
      go_ret
      exact ⟨ret_int' hn.out.symm, rfl⟩

theorem Sl.lit_strs' {F : Nat → Prop} {w' : World} {t : TypeId} {fz : Nat × Nat} {b : Nat} {c : Array Value} (ss : List ByteArray) (hb : w'.heap[b]? = some (.cells c t fz)) (hc : c = (ss.map Value.string).toArray) (hF : F b) (hz : ∀ s ∈ ss, s.size ≤ 1000000) :
    Sl RStr 1 F w' (some ⟨b, 0, none⟩) ss.length ss := by
  refine Sl.of_strs rfl hF (fun i hi => ?_) hz
  simp [World.cell?, hb, hc, List.getElem?_eq_getElem hi]
theorem kept_grow' (w : World) (k : Nat) (os : Array Obj) : All w (Go.Sort.grow (w.drewN k) os) :=
  ⟨rfl, rfl, rfl, by simp [Go.Sort.grow, World.drewN], fun i hi _ => by
    simp only [Go.Sort.grow, World.drewN]
    rw [Array.getElem?_append_left hi]⟩
theorem pairOrder_grow (a1 a2 b1 b2 : ByteArray) (w : World) (h1 : a1.size ≤ 1000000) (h2 : a2.size ≤ 1000000) (h3 : b1.size ≤ 1000000) (h4 : b2.size ≤ 1000000) :
    Calls Tryz.prog 82 #[.agg #[.string a1, .string a2], .agg #[.string b1, .string b2]] w fun e w' => e = .returned (.int .i64 (cmpP a1 a2 b1 b2)) ∧ ∃ q os, w' = Go.Sort.grow (w.drewN q) os := by
  go_enter Tryz.func82, Tryz.ntmps82
  go_wp2_with fail
  refine (compareS_any _ 2 _ _ _ [a1, a2] [b1, b2] _ (Sl.lit_strs' [a1, a2] (heap_old _ (heap_at _ _ _ (by simp))) rfl trivial (by simp; omega)) (Sl.lit_strs' [b1, b2] (heap_at _ _ _ (by simp)) rfl trivial (by simp; omega)) (by omega)).mono ?_
  rintro e w' ⟨rfl, rfl⟩
  rw [cmpS_pair]
  go_wp2_with fail
  go_ret
  exact ⟨rfl, 0, _, by rw [Go.Sort.alloc_eq_grow, Go.Sort.alloc_eq_grow, Go.Sort.alloc_eq_grow, Go.Sort.alloc_eq_grow, Go.Sort.grow_grow, Go.Sort.grow_grow, Go.Sort.grow_grow]; rfl⟩
theorem pairOrder_any (a1 a2 b1 b2 : ByteArray) (w : World) (h1 : a1.size ≤ 1000000) (h2 : a2.size ≤ 1000000) (h3 : b1.size ≤ 1000000) (h4 : b2.size ≤ 1000000) :
    Calls Tryz.prog 82 #[.agg #[.string a1, .string a2], .agg #[.string b1, .string b2]] w fun e w' => e = .returned (.int .i64 (cmpP a1 a2 b1 b2)) ∧ All w w' := by
  refine (pairOrder_grow a1 a2 b1 b2 w h1 h2 h3 h4).mono ?_
  rintro e w' ⟨rfl, q, os, rfl⟩
  exact ⟨rfl, kept_grow' _ _ _⟩
theorem comparePairs_any (a1 a2 b1 b2 : ByteArray) (w : World) :
    Calls Tryz.prog 102 #[.agg #[.string a1, .string a2], .agg #[.string b1, .string b2]] w fun e w' => e = .returned (.int .i64 (cmpP a1 a2 b1 b2)) ∧ All w w' := by
  by_cases h0 : Lib.compareBytes a1.data.toList b1.data.toList = 0
  · have he := Lib.hid (show cmpP a1 a2 b1 b2 = Lib.compareBytes a2.data.toList b2.data.toList by rw [cmpP, if_neg (by simp [h0])])
    go_enter Tryz.func102, Tryz.ntmps102
    go_wp2_with fail
    refine (Tryz.strings_Compare _ _ _).mono ?_
    rintro e w' ⟨rfl, rfl⟩
    rw [h0]
    clear h0
    go_wp2_with fail
    refine (Tryz.strings_Compare _ _ _).mono ?_
    rintro e w' ⟨rfl, rfl⟩
    go_wp2_with fail
    go_ret
    exact ⟨ret_int' he.out.symm, ((Kept.refl _ _).then_alloc _).then_alloc _⟩
  · have he := Lib.hid (show cmpP a1 a2 b1 b2 = Lib.compareBytes a1.data.toList b1.data.toList by rw [cmpP, if_pos h0])
    have hne : (Lib.compareBytes a1.data.toList b1.data.toList != 0) = true := by simpa using h0
    clear h0
    go_enter Tryz.func102, Tryz.ntmps102
    go_wp2_with fail
    refine (Tryz.strings_Compare _ _ _).mono ?_
    rintro e w' ⟨rfl, rfl⟩
    go_wp2_with fail
    go_ret
    exact ⟨ret_int' he.out.symm, ((Kept.refl _ _).then_alloc _).then_alloc _⟩
end Go.Proofs.YthhmgblcccbdaaaGreatDoor
