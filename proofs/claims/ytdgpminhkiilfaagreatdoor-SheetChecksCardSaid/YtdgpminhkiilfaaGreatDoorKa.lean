/- Contracts of small functions: Outside, in, IsKey, Index and Contains of strings, RisingFault. -/
import Derived.Test.YtdgpminhkiilfaaGreatDoorProg
import Derived.Test.YtdgpminhkiilfaaGreatDoorZd
namespace Go.Proofs.YtdgpminhkiilfaaGreatDoor
open Go.RowKit

theorem ret_int' {k : IntKind} {a b : Int} (h : a = b) : Ending.returned (.int k a) = .returned (.int k b) := by rw [h]
theorem outside_any (n lo hi : Int) (w : World) : Calls Tryz.prog 63 #[.int .i64 n, .int .i64 lo, .int .i64 hi] w fun e w' => e = .returned (.bool (decide (n < lo ∨ hi < n))) ∧ w = w' := by
  by_cases h1 : n < lo
  · have hd : decide (n < lo) = true := by simpa using h1
    go_enter Tryz.func63, Tryz.ntmps63
    go_wp2
    go_ret
    exact ⟨by simp [h1], rfl⟩
  · have hd : decide (n < lo) = false := by simpa using h1
    go_enter Tryz.func63, Tryz.ntmps63
    go_wp2
    go_ret
    exact ⟨by simp, rfl⟩
theorem in_any (n lo hi : Int) (w : World) : Calls Tryz.prog 45 #[.int .i64 n, .int .i64 lo, .int .i64 hi] w fun e w' => e = .returned (.bool (decide (lo ≤ n ∧ n ≤ hi))) ∧ w = w' := by
  by_cases h1 : lo ≤ n
  · have hd : decide (lo ≤ n) = true := by simpa using h1
    go_enter Tryz.func45, Tryz.ntmps45
    go_wp2
    go_ret
    exact ⟨by simp [h1], rfl⟩
  · have hd : decide (lo ≤ n) = false := by simpa using h1
    go_enter Tryz.func45, Tryz.ntmps45
    go_wp2
    go_ret
    exact ⟨by simp, rfl⟩

/-- May byte c stand at place i of a key? -/
def keyByte (i : Nat) (c : Int) : Prop := (97 ≤ c ∧ c ≤ 122) ∨ (0 < i ∧ ((48 ≤ c ∧ c ≤ 57) ∨ c = 45 ∨ c = 95))
def keyUpTo (s : ByteArray) (k : Nat) : Prop := ∀ (i : Nat) (h : i < s.size), i < k → keyByte i s[i].toNat
def isKey (s : ByteArray) : Prop := keyUpTo s s.size ∧ 0 < s.size ∧ s.size ≤ 40
open Classical in
noncomputable def isKeyB (s : ByteArray) : Bool := decide (isKey s)
theorem isKeyB_true {s : ByteArray} (h : isKey s) : isKeyB s = true := by simp [isKeyB, h]
theorem isKeyB_false {s : ByteArray} (h : ¬ isKey s) : isKeyB s = false := by simp [isKeyB, h]

theorem keyUpTo_succ {s : ByteArray} {k : Nat} (h : keyUpTo s k) (hk : k < s.size) (hb : keyByte k s[k].toNat) : keyUpTo s (k + 1) := by
  intro i hi hik
  by_cases e : i = k
  · subst e; exact hb
  · exact h i hi (by omega)

theorem toList_len (s : ByteArray) : s.toList.length = s.size := by rw [Go.ByteArray.toList_eq, Array.length_toList]; rfl
theorem toList_nil {s : ByteArray} (h : s.size = 0) : s.toList = [] := List.eq_nil_of_length_eq_zero (by rw [toList_len]; exact h)
theorem toList_ne {s : ByteArray} (h : ¬ s.size = 0) : s.toList ≠ [] := fun e => h (by rw [← toList_len, e]; rfl)

set_option maxHeartbeats 800000 in
theorem isKey_any (s : ByteArray) (w : World) (hs : s.size ≤ 140737488351232) : Calls Tryz.prog 47 #[.string s] w fun e w' => e = .returned (.bool (isKeyB s)) ∧ w = w' := by
  go_enter Tryz.func47, Tryz.ntmps47
  go_wp2
  go_loop [3, 4] (fun i _ => ∃ k : Nat, k ≤ s.size ∧ i = .int .i64 k ∧ keyUpTo s k) (fun i _ => s.size - (intOf i).toNat)
  case atStart => exact ⟨0, Nat.zero_le _, rfl, fun i _ h => absurd h (by omega)⟩
  case round =>
    obtain ⟨k, hk, rfl, hkey⟩ := hrel
    by_cases hlt : k < s.size
    · go_wp2
      all_goals
        first
        | (go_round
           case rel => exact ⟨k + 1, by omega, by go_num, keyUpTo_succ hkey hlt (by unfold keyByte; first | omega | (simp at *; omega))⟩
           case measure => simp [intOf]; omega)
        | (go_ret
           refine ⟨by rw [isKeyB_false (fun h => by have := h.1 k hlt hlt; unfold keyByte at this; first | omega | (simp at *; omega))]; rfl, rfl⟩)
    · have hke : k = s.size := by omega
      subst hke
      by_cases h0 : s.size = 0
      · have he : s.toList = [] := toList_nil h0
        go_wp2
        go_ret
        exact ⟨by rw [isKeyB_false (fun h => by have := h.2.1; omega)]; rfl, rfl⟩
      · have he : s.toList ≠ [] := toList_ne h0
        have hd : s.toList.isEmpty = false := by simpa using he
        by_cases h40 : s.size ≤ 40
        · have h41 : decide ((s.size : Int) ≤ 40) = true := by simp; omega
          go_wp2
          go_ret
          exact ⟨by rw [isKeyB_true ⟨hkey, by omega, h40⟩]; rfl, rfl⟩
        · have h41 : decide ((s.size : Int) ≤ 40) = false := by simp; omega
          go_wp2
          go_ret
          exact ⟨by rw [isKeyB_false (fun h => h40 h.2.2)]; rfl, rfl⟩

/-- Where x stands first among ss from place k on; -1: nowhere. -/
def idxFrom (x : ByteArray) : Nat → List ByteArray → Int
  | _, [] => -1
  | k, s :: l => if s = x then k else idxFrom x (k + 1) l
theorem idxFrom_neg {x : ByteArray} : ∀ {ss : List ByteArray} {k : Nat}, x ∉ ss → idxFrom x k ss = -1
  | [], _, _ => rfl
  | s :: l, k, h => by
    simp only [List.mem_cons, not_or] at h
    rw [idxFrom, if_neg (fun e => h.1 e.symm)]
    exact idxFrom_neg h.2
theorem idxFrom_nonneg {x : ByteArray} : ∀ {ss : List ByteArray} {k : Nat}, x ∈ ss → 0 ≤ idxFrom x k ss
  | s :: l, k, h => by
    rw [idxFrom]
    by_cases e : s = x
    · rw [if_pos e]; omega
    · rw [if_neg e]
      simp only [List.mem_cons] at h
      exact idxFrom_nonneg (h.resolve_left (fun h => e h.symm))
theorem idxFrom_append {x : ByteArray} : ∀ {a b : List ByteArray} {k : Nat}, x ∉ a → idxFrom x k (a ++ b) = idxFrom x (k + a.length) b
  | [], b, k, _ => by simp
  | s :: l, b, k, h => by
    simp only [List.mem_cons, not_or] at h
    rw [List.cons_append, idxFrom, if_neg (fun e => h.1 e.symm), idxFrom_append h.2]
    simp only [List.length_cons]
    congr 1
    omega
theorem bytes_ext {a b : ByteArray} (h : a.toList = b.toList) : a = b := by
  rw [Go.ByteArray.toList_eq, Go.ByteArray.toList_eq] at h
  exact Go.WideShapes.bytes_inj h

def memB (x : ByteArray) (ss : List ByteArray) : Bool := ss.any fun s => decide (s = x)
theorem memB_iff {x : ByteArray} {ss : List ByteArray} : memB x ss = true ↔ x ∈ ss := by simp [memB]
theorem memB_true {x : ByteArray} {ss : List ByteArray} (h : x ∈ ss) : memB x ss = true := memB_iff.2 h
theorem memB_false {x : ByteArray} {ss : List ByteArray} (h : x ∉ ss) : memB x ss = false := by
  cases hb : memB x ss
  · rfl
  · exact absurd (memB_iff.1 hb) h
end Go.Proofs.YtdgpminhkiilfaaGreatDoor
