/- Contracts of small functions: Outside, in, IsKey, Index and Contains of strings, RisingFault. -/
import Derived.Test.YtgobnlgmbplggaaGreatDoorProg
import Derived.Test.YtgobnlgmbplggaaGreatDoorZd
import Derived.Test.YtgobnlgmbplggaaGreatDoorSh
import Derived.Test.YtgobnlgmbplggaaGreatDoorSi
import Derived.Test.YtgobnlgmbplggaaGreatDoorSk
import Derived.Shelf.Vars
import Derived.Lib.LaidTab
namespace Go.Proofs.YtgobnlgmbplggaaGreatDoor
open Go.RowKit

theorem ret_int' {k : IntKind} {a b : Int} (h : a = b) : Ending.returned (.int k a) = .returned (.int k b) := by rw [h]
theorem in_any (n lo hi : Int) (w : World) : Calls Tryz.prog 72 #[.int .i64 n, .int .i64 lo, .int .i64 hi] w fun e w' => e = .returned (.bool (decide (lo ≤ n ∧ n ≤ hi))) ∧ w = w' := by
  by_cases h1 : lo ≤ n
  · have hd : decide (lo ≤ n) = true := by simpa using h1
    go_enter Tryz.func72, Tryz.ntmps72
    go_wp2
    go_ret
    exact ⟨by simp [h1], rfl⟩
  · have hd : decide (lo ≤ n) = false := by simpa using h1
    go_enter Tryz.func72, Tryz.ntmps72
    go_wp2
    go_ret
    exact ⟨by simp, rfl⟩

/-- May byte c stand at place i of a key? -/
def keyByte (i : Nat) (c : Int) : Prop := (97 ≤ c ∧ c ≤ 122) ∨ (0 < i ∧ ((48 ≤ c ∧ c ≤ 57) ∨ c = 45 ∨ c = 95))
def keyUpTo (s : ByteArray) (k : Nat) : Prop := ∀ (i : Nat) (h : i < s.size), i < k → keyByte i s[i].toNat
def isKey (s : ByteArray) : Prop := keyUpTo s s.size ∧ 0 < s.size ∧ s.size ≤ 40
open Classical in
noncomputable def isKeyB (s : ByteArray) : Bool := decide (isKey s)
theorem isKeyB_true {s : ByteArray} (h : isKey s) : isKeyB s = true := by simp [isKeyB, h]
theorem isKeyB_false {s : ByteArray} (h : ¬ isKey s) : isKeyB s = false := by simp [isKeyB, h]

theorem keyUpTo_succ {s : ByteArray} {k : Nat} (h : keyUpTo s k) (hk : k < s.size) (hb : keyByte k s[k].toNat) : keyUpTo s (k + 1) := by
  intro i hi hik
  by_cases e : i = k
  · subst e; exact hb
  · exact h i hi (by omega)

theorem toList_len (s : ByteArray) : s.toList.length = s.size := by rw [Go.ByteArray.toList_eq, Array.length_toList]; rfl
theorem toList_nil {s : ByteArray} (h : s.size = 0) : s.toList = [] := List.eq_nil_of_length_eq_zero (by rw [toList_len]; exact h)
theorem toList_ne {s : ByteArray} (h : ¬ s.size = 0) : s.toList ≠ [] := fun e => h (by rw [← toList_len, e]; rfl)

set_option maxHeartbeats 800000 in
theorem isKey_any (s : ByteArray) (w : World) (hs : s.size ≤ 140737488351232) : Calls Tryz.prog 138 #[.string s] w fun e w' => e = .returned (.bool (isKeyB s)) ∧ w = w' := by
  go_enter Tryz.func138, Tryz.ntmps138
  go_wp2
  go_loop [3, 4] (fun i _ => ∃ k : Nat, k ≤ s.size ∧ i = .int .i64 k ∧ keyUpTo s k) (fun i _ => s.size - (intOf i).toNat)
  case atStart => exact ⟨0, Nat.zero_le _, rfl, fun i _ h => absurd h (by omega)⟩
  case round =>
    obtain ⟨k, hk, rfl, hkey⟩ := hrel
    by_cases hlt : k < s.size
    · go_wp2
      all_goals
        first
        | (go_round
           case rel => exact ⟨k + 1, by omega, by go_num, keyUpTo_succ hkey hlt (by unfold keyByte; first | omega | (simp at *; omega))⟩
           case measure => simp [intOf]; omega)
        | (go_ret
           refine ⟨by rw [isKeyB_false (fun h => by have := h.1 k hlt hlt; unfold keyByte at this; first | omega | (simp at *; omega))]; rfl, rfl⟩)
    · have hke : k = s.size := by omega
      subst hke
      by_cases h0 : s.size = 0
      · have he : s.toList = [] := toList_nil h0
        go_wp2
        go_ret
        exact ⟨by rw [isKeyB_false (fun h => by have := h.2.1; omega)]; rfl, rfl⟩
      · have he : s.toList ≠ [] := toList_ne h0
        have hd : s.toList.isEmpty = false := by simpa using he
        by_cases h40 : s.size ≤ 40
        · have h41 : decide ((s.size : Int) ≤ 40) = true := by simp; omega
          go_wp2
          go_ret
          exact ⟨by rw [isKeyB_true ⟨hkey, by omega, h40⟩]; rfl, rfl⟩
        · have h41 : decide ((s.size : Int) ≤ 40) = false := by simp; omega
          go_wp2
          go_ret
          exact ⟨by rw [isKeyB_false (fun h => h40 h.2.2)]; rfl, rfl⟩

/-- Where x stands first among ss from place k on; -1: nowhere. -/
def idxFrom (x : ByteArray) : Nat → List ByteArray → Int
  | _, [] => -1
  | k, s :: l => if s = x then k else idxFrom x (k + 1) l
theorem idxFrom_neg {x : ByteArray} : ∀ {ss : List ByteArray} {k : Nat}, x ∉ ss → idxFrom x k ss = -1
  | [], _, _ => rfl
  | s :: l, k, h => by
    simp only [List.mem_cons, not_or] at h
    rw [idxFrom, if_neg (fun e => h.1 e.symm)]
    exact idxFrom_neg h.2
theorem idxFrom_nonneg {x : ByteArray} : ∀ {ss : List ByteArray} {k : Nat}, x ∈ ss → 0 ≤ idxFrom x k ss
  | s :: l, k, h => by
    rw [idxFrom]
    by_cases e : s = x
    · rw [if_pos e]; omega
    · rw [if_neg e]
      simp only [List.mem_cons] at h
      exact idxFrom_nonneg (h.resolve_left (fun h => e h.symm))
theorem idxFrom_append {x : ByteArray} : ∀ {a b : List ByteArray} {k : Nat}, x ∉ a → idxFrom x k (a ++ b) = idxFrom x (k + a.length) b
  | [], b, k, _ => by simp
  | s :: l, b, k, h => by
    simp only [List.mem_cons, not_or] at h
    rw [List.cons_append, idxFrom, if_neg (fun e => h.1 e.symm), idxFrom_append h.2]
    simp only [List.length_cons]
    congr 1
    omega
theorem bytes_ext {a b : ByteArray} (h : a.toList = b.toList) : a = b := by
  rw [Go.ByteArray.toList_eq, Go.ByteArray.toList_eq] at h
  exact Go.WideShapes.bytes_inj h

def memB (x : ByteArray) (ss : List ByteArray) : Bool := ss.any fun s => decide (s = x)
theorem memB_iff {x : ByteArray} {ss : List ByteArray} : memB x ss = true ↔ x ∈ ss := by simp [memB]
theorem memB_true {x : ByteArray} {ss : List ByteArray} (h : x ∈ ss) : memB x ss = true := memB_iff.2 h
theorem memB_false {x : ByteArray} {ss : List ByteArray} (h : x ∉ ss) : memB x ss = false := by
  cases hb : memB x ss
  · rfl
  · exact absurd (memB_iff.1 hb) h
end Go.Proofs.YtgobnlgmbplggaaGreatDoor

/- Contracts of the reference's only and Key. -/
namespace Go.Proofs.YtgobnlgmbplggaaGreatDoor
open Go.RowKit

theorem dropWhile_nil {α : Type} (p : α → Bool) : ∀ (l : List α), l.dropWhile p = [] ↔ ∀ b ∈ l, p b = true
  | [] => by simp
  | a :: l => by
    rw [List.dropWhile_cons]
    by_cases h : p a = true
    · simp [h, dropWhile_nil p l]
    · simp [h]
theorem takeWhile_all {α : Type} {p : α → Bool} {b : α} : ∀ {l : List α}, b ∈ l.takeWhile p → p b = true
  | a :: l, h => by
    rw [List.takeWhile_cons] at h
    by_cases ha : p a = true
    · rw [if_pos ha] at h
      rcases List.mem_cons.1 h with e | e
      · rw [e]; exact ha
      · exact takeWhile_all e
    · rw [if_neg ha] at h; cases h
theorem trimRight_mem {l cs : List UInt8} : (∀ b ∈ Lib.trimRightS l cs, cs.contains b = true) ↔ ∀ b ∈ l, cs.contains b = true := by
  unfold Lib.trimRightS
  constructor
  · intro h b hb
    by_cases hc : cs.contains b = true
    · exact hc
    · -- b is not dropped
      have : b ∈ (l.reverse.dropWhile (cs.contains ·)).reverse := by
        rw [List.mem_reverse]
        have hb' : b ∈ l.reverse := List.mem_reverse.2 hb
        rw [← List.takeWhile_append_dropWhile (p := (cs.contains ·)) (l := l.reverse), List.mem_append] at hb'
        rcases hb' with h1 | h1
        · exact absurd (takeWhile_all h1) hc
        · exact h1
      exact h b this
  · intro h b hb
    exact h b (List.mem_reverse.1 ((List.dropWhile_sublist _).subset (List.mem_reverse.1 hb)))
theorem trimS_nil {l cs : List UInt8} : Lib.trimS l cs = [] ↔ ∀ b ∈ l, cs.contains b = true := by
  unfold Lib.trimS Lib.trimLeftS
  rw [dropWhile_nil, trimRight_mem]

def onlyB (s cs : ByteArray) : Bool := s.data.toList.all (cs.data.toList.contains ·)
def smalls : ByteArray := ⟨#[97, 98, 99, 100, 101, 102, 103, 104, 105, 106, 107, 108, 109, 110, 111, 112, 113, 114, 115, 116, 117, 118, 119, 120, 121, 122]⟩
def keyset : ByteArray := ⟨#[97, 98, 99, 100, 101, 102, 103, 104, 105, 106, 107, 108, 109, 110, 111, 112, 113, 114, 115, 116, 117, 118, 119, 120, 121, 122, 48, 49, 50, 51, 52, 53, 54, 55, 56, 57, 45, 95]⟩
theorem of_bytes (p q : UInt8 → Prop) (h : ∀ n, n < 256 → (p (UInt8.ofNat n) ↔ q (UInt8.ofNat n))) (b : UInt8) : p b ↔ q b := by
  have := h b.toNat (UInt8.toNat_lt b)
  rwa [UInt8.ofNat_toNat] at this
theorem smalls_mem (b : UInt8) : smalls.data.toList.contains b = true ↔ 97 ≤ b.toNat ∧ b.toNat ≤ 122 :=
  of_bytes (fun b => smalls.data.toList.contains b = true) (fun b => 97 ≤ b.toNat ∧ b.toNat ≤ 122) (by decide +kernel) b
theorem keyset_mem (b : UInt8) : keyset.data.toList.contains b = true ↔ (97 ≤ b.toNat ∧ b.toNat ≤ 122) ∨ (48 ≤ b.toNat ∧ b.toNat ≤ 57) ∨ b.toNat = 45 ∨ b.toNat = 95 :=
  of_bytes (fun b => keyset.data.toList.contains b = true) (fun b => (97 ≤ b.toNat ∧ b.toNat ≤ 122) ∨ (48 ≤ b.toNat ∧ b.toNat ≤ 57) ∨ b.toNat = 45 ∨ b.toNat = 95) (by decide +kernel) b
theorem onlyB_iff (s cs : ByteArray) : onlyB s cs = true ↔ ∀ (i : Nat) (h : i < s.size), cs.data.toList.contains s[i] = true := by
  unfold onlyB
  rw [List.all_eq_true]
  constructor
  · intro h i hi
    exact h _ (by rw [Array.mem_toList_iff]; exact Array.getElem_mem (by simpa using hi))
  · intro h b hb
    rw [Array.mem_toList_iff] at hb
    obtain ⟨i, hi, rfl⟩ := Array.getElem_of_mem hb
    exact h i hi

theorem key_iff (s : ByteArray) (h1 : 1 ≤ s.size) (h2 : s.size ≤ 40) : isKey s ↔ onlyB (s.extract 0 1) smalls = true ∧ onlyB s keyset = true := by
  rw [onlyB_iff, onlyB_iff]
  have he : (s.extract 0 1).size = 1 := by simp; omega
  have hb : ∀ (h : 0 < (s.extract 0 1).size), (s.extract 0 1)[0] = s[0] := fun h => by simp [ByteArray.getElem_extract]
  constructor
  · rintro ⟨hk, _, _⟩
    constructor
    · intro i hi
      have hi0 : i = 0 := by omega
      subst hi0
      rw [hb, smalls_mem]
      have := hk 0 (by omega) (by omega)
      unfold keyByte at this
      omega
    · intro i hi
      rw [keyset_mem]
      have := hk i hi hi
      unfold keyByte at this
      omega
  · rintro ⟨ha, hc⟩
    refine ⟨fun i hi _ => ?_, by omega, h2⟩
    have h3 := hc i hi
    rw [keyset_mem] at h3
    unfold keyByte
    by_cases hi0 : i = 0
    · subst hi0
      have h4 := ha 0 (by omega)
      rw [hb, smalls_mem] at h4
      omega
    · omega

theorem only_any (s cs : ByteArray) (w : World) (hs : s.size ≤ 1000000) (hcs : cs.size ≤ 1000) (ha : ∀ (j : Nat) b, cs.data.toList[j]? = some b → b.toNat < 128) :
    Calls Tryz.prog 151 #[.string s, .string cs] w fun e w' => e = .returned (.bool (onlyB s cs)) ∧ All w w' := by
  have hT := Tryz.strings_Trim_ascii s cs w (by omega) (by omega) ha
  have HT := Lib.hid hT
  clear hT ha
  have hiff : onlyB s cs = true ↔ Lib.trimS s.data.toList cs.data.toList = [] := by rw [trimS_nil]; unfold onlyB; exact List.all_eq_true
  generalize Lib.trimS s.data.toList cs.data.toList = t at *
  cases t with
  | nil =>
    rw [hiff.2 rfl]
    go_enter Tryz.func151, Tryz.ntmps151
    go_wp2_with fail
    refine HT.out.mono ?_
    rintro e w' ⟨rfl, hb⟩
    go_wp2
    go_ret
    exact ⟨rfl, Kept.of_below hb⟩
  | cons c t =>
    have hf : onlyB s cs = false := by
      cases h : onlyB s cs
      · rfl
      · exact absurd (hiff.1 h) (by simp)
    rw [hf]
    clear hiff hf
    go_enter Tryz.func151, Tryz.ntmps151
    go_wp2_with fail
    refine HT.out.mono ?_
    rintro e w' ⟨rfl, hb⟩
    go_wp2
    go_ret
    exact ⟨rfl, Kept.of_below hb⟩

theorem key_any (s : ByteArray) (w : World) (hs : s.size ≤ 1000000) :
    Calls Tryz.prog 79 #[.string s] w fun e w' => e = .returned (.bool (isKeyB s)) ∧ All w w' := by
  by_cases h : 1 ≤ s.size ∧ s.size ≤ 40
  · obtain ⟨h1, h2⟩ := h
    have hk := key_iff s h1 h2
    have hd : decide ((1 : Int) ≤ (s.size : Int) ∧ (s.size : Int) ≤ 40) = true := by simp; omega
    have hx : (s.extract 0 1).size ≤ 1000000 := by simp; omega
    cases hb1 : onlyB (s.extract 0 1) smalls with
    | false =>
      have hf : isKeyB s = false := isKeyB_false (fun h => by rw [hk, hb1] at h; cases h.1)
      rw [hf]
      clear hk hf
      have HB := Lib.hid hb1
      clear hb1
      go_enter Tryz.func79, Tryz.ntmps79
      go_wp2_with fail
      refine (in_any _ _ _ _).mono ?_
      rintro e w' ⟨rfl, rfl⟩
      rw [hd]
      go_wp2_with fail
      refine (only_any (s.extract 0 1) smalls _ hx (by decide) (ascii_of_all (by decide))).mono ?_
      rintro e w' ⟨rfl, hw⟩
      rw [HB.out]
      go_wp2
      go_ret
      exact ⟨rfl, hw⟩
    | true =>
      have hf : isKeyB s = onlyB s keyset := by
        cases hb2 : onlyB s keyset
        · exact isKeyB_false (fun h => by rw [hk, hb2] at h; cases h.2)
        · exact isKeyB_true (hk.2 ⟨hb1, hb2⟩)
      rw [hf]
      clear hk hf
      have HB := Lib.hid hb1
      clear hb1
      go_enter Tryz.func79, Tryz.ntmps79
      go_wp2_with fail
      refine (in_any _ _ _ _).mono ?_
      rintro e w' ⟨rfl, rfl⟩
      rw [hd]
      go_wp2_with fail
      refine (only_any (s.extract 0 1) smalls _ hx (by decide) (ascii_of_all (by decide))).mono ?_
      rintro e w' ⟨rfl, hw⟩
      rw [HB.out]
      go_wp2_with fail
      refine (only_any s keyset _ hs (by decide) (ascii_of_all (by decide))).mono ?_
      rintro e w2 ⟨rfl, hw2⟩
      go_wp2
      go_ret
      exact ⟨rfl, hw.trans hw2⟩
  · have hd : decide ((1 : Int) ≤ (s.size : Int) ∧ (s.size : Int) ≤ 40) = false := by simp; omega
    rw [isKeyB_false (fun hk => h ⟨by have := hk.2.1; omega, hk.2.2⟩)]
    go_enter Tryz.func79, Tryz.ntmps79
    go_wp2_with fail
    refine (in_any _ _ _ _).mono ?_
    rintro e w' ⟨rfl, rfl⟩
    rw [hd]
    go_wp2
    go_ret
    exact ⟨rfl, Kept.refl _ _⟩
end Go.Proofs.YtgobnlgmbplggaaGreatDoor

/- IsPlain and Plain answer plainB; isLine and named answer lineB. -/
namespace Go.Proofs.YtgobnlgmbplggaaGreatDoor
open Go.RowKit

/-- What the library's own variables hold. -/
structure Glob (w : World) : Prop where
  tabs : Lib.Utf8Tabs 1 2 w
  most : ∃ m : Int, w.cell? ⟨0, 0, none⟩ = some (.int .i64 m)
theorem Glob.kept {F : Nat → Prop} {w w' : World} (h : Glob w) (k : Kept F w w') (h0 : F 1) (h1 : F 2) (h2 : F 0) : Glob w' := by
  refine ⟨⟨fun c hc => k.cell (h.tabs.1 c hc) h0, fun i hi => ⟨k.cell (h.tabs.2 i hi).1 h1, k.cell (h.tabs.2 i hi).2 h1⟩⟩, ?_⟩
  obtain ⟨m, hm⟩ := h.most
  exact ⟨m, k.cell hm h2⟩
theorem Glob.keep {w w' : World} (h : Glob w) (k : All w w') : Glob w' := h.kept k trivial trivial trivial
theorem Glob.but {w w' : World} {b : Nat} (h : Glob w) (k : But b w w') (hb : 7 < b) : Glob w' := h.kept k (by omega) (by omega) (by omega)

def blank1 : ByteArray := ⟨#[32]⟩
def blank2 : ByteArray := ⟨#[32, 32]⟩
/-- No byte up to place k is barred. -/
def bytesOk (s : ByteArray) (k : Nat) : Prop := ∀ (i : Nat) (h : i < s.size), i < k → ¬ ((s[i].toNat : Int) < 32 ∨ (s[i].toNat : Int) = 127)
def trimmed (s : ByteArray) : Prop := Lib.trimS s.data.toList blank1.data.toList = s.data.toList
open Classical in
noncomputable def plainB (s : ByteArray) : Bool := decide (bytesOk s s.size) && Lib.validD s.data.toList && decide (trimmed s) && !Lib.contains s.data.toList blank2.data.toList
theorem plainB_bad {s : ByteArray} (h : ¬ bytesOk s s.size) : plainB s = false := by simp [plainB, h]
theorem plainB_ok {s : ByteArray} (h : bytesOk s s.size) : plainB s = (Lib.validD s.data.toList && (open Classical in decide (trimmed s)) && !Lib.contains s.data.toList blank2.data.toList) := by simp [plainB, h]
theorem bytesOk_succ {s : ByteArray} {k : Nat} (h : bytesOk s k) (hk : k < s.size) (hb : ¬ ((s[k].toNat : Int) < 32 ∨ (s[k].toNat : Int) = 127)) : bytesOk s (k + 1) := by
  intro i hi hik
  by_cases e : i = k
  · subst e; exact hb
  · exact h i hi (by omega)
theorem string_back (s : ByteArray) : (⟨s.data.toList.toArray⟩ : ByteArray) = s := by simp

set_option maxHeartbeats 1600000 in
theorem isPlain_any (s : ByteArray) (w : World) (hs : s.size ≤ 1000000) (hg : Glob w) :
    Calls Tryz.prog 238 #[.string s] w fun e w' => e = .returned (.bool (plainB s)) ∧ All w w' := by
  have HV := Lib.hid (Tryz.utf8_ValidString s w (by omega) hg.tabs)
  have HT := Lib.hid (fun wx => Tryz.strings_Trim_ascii s blank1 wx (by omega) (by decide) (ascii_of_all (by decide)))
  have HG := Lib.hid hg
  clear hg
  go_enter Tryz.func238, Tryz.ntmps238
  go_wp2
  go_loop [3] (fun i => ∃ k : Nat, k ≤ s.size ∧ i = .int .i64 k ∧ bytesOk s k) (fun i => s.size - (intOf i).toNat)
  case atStart => exact ⟨0, Nat.zero_le _, rfl, fun i _ h => absurd h (by omega)⟩
  case round =>
    obtain ⟨k, hk, rfl, hok⟩ := hrel
    by_cases hlt : k < s.size
    · by_cases h1 : (s[k].toNat : Int) < 32
      · have hf := Lib.hid (plainB_bad (s := s) (fun h => h k hlt hlt (Or.inl h1)))
        have d1 : decide ((s[k].toNat : Int) < 32) = true := by simpa using h1
        go_wp2_with fail
        go_ret
        exact ⟨by rw [hf.out]; rfl, Kept.refl _ _⟩
      · have d1 : decide ((s[k].toNat : Int) < 32) = false := by simpa using h1
        by_cases h2 : (s[k].toNat : Int) = 127
        · have hf := Lib.hid (plainB_bad (s := s) (fun h => h k hlt hlt (Or.inr h2)))
          have d2 : ((s[k].toNat : Int) == 127) = true := by simpa using h2
          clear h2
          go_wp2_with fail
          go_ret
          exact ⟨by rw [hf.out]; rfl, Kept.refl _ _⟩
        · have d2 : ((s[k].toNat : Int) == 127) = false := by simpa using h2
          have hnx := Lib.hid (bytesOk_succ hok hlt (by omega))
          clear h2
          go_wp2_with fail
          go_round
          case rel => exact ⟨k + 1, by omega, by go_num, hnx.out⟩
          case measure => simp [intOf]; omega
    · have hd : decide ((k : Int) < (s.size : Int)) = false := by simp; omega
      have hke : k = s.size := by omega
      subst hke
      have Hp := Lib.hid (plainB_ok hok)
      clear hok
      cases hv : Lib.validD s.data.toList with
      | false =>
        have Hv := Lib.hid hv
        clear hv
        go_wp2_with fail
        refine HV.out.mono ?_
        rintro e w1 ⟨rfl, hw1⟩
        rw [Hv.out]
        go_wp2_with fail
        go_ret
        exact ⟨by rw [Hp.out, Hv.out]; rfl, Kept.of_below hw1⟩
      | true =>
        have Hv := Lib.hid hv
        clear hv
        by_cases ht : trimmed s
        · cases hc : Lib.contains s.data.toList blank2.data.toList with
          | false =>
            have Hc := Lib.hid hc
            clear hc
            go_wp2_with fail
            refine HV.out.mono ?_
            rintro e w1 ⟨rfl, hw1⟩
            rw [Hv.out]
            go_wp2_with fail
            refine (HT.out _).mono ?_
            rintro e w2 ⟨rfl, hw2⟩
            have hw12 := (Kept.of_below hw1).trans (Kept.of_below hw2)
            have Ht := Lib.hid ht
            have ht2 : Lib.trimS s.data.toList blank1.data.toList = s.data.toList := ht
            rw [ht2, string_back]
            clear ht ht2
            have e1 : (s.toList == s.toList) = true := by simp
            obtain ⟨m, hm⟩ := (HG.out.keep hw12).most
            go_wp2_with fail
            refine (Tryz.strings_Contains s blank2 m _ (by omega) hm).mono ?_
            rintro e w3 ⟨rfl, hw3⟩
            subst hw3
            rw [Hc.out]
            go_wp2_with fail
            go_ret
            exact ⟨by rw [Hp.out, Hv.out, Hc.out]; simp [Ht.out], hw12⟩
          | true =>
            have Hc := Lib.hid hc
            clear hc
            go_wp2_with fail
            refine HV.out.mono ?_
            rintro e w1 ⟨rfl, hw1⟩
            rw [Hv.out]
            go_wp2_with fail
            refine (HT.out _).mono ?_
            rintro e w2 ⟨rfl, hw2⟩
            have hw12 := (Kept.of_below hw1).trans (Kept.of_below hw2)
            have ht2 : Lib.trimS s.data.toList blank1.data.toList = s.data.toList := ht
            rw [ht2, string_back]
            clear ht ht2
            have e1 : (s.toList == s.toList) = true := by simp
            obtain ⟨m, hm⟩ := (HG.out.keep hw12).most
            go_wp2_with fail
            refine (Tryz.strings_Contains s blank2 m _ (by omega) hm).mono ?_
            rintro e w3 ⟨rfl, hw3⟩
            subst hw3
            rw [Hc.out]
            go_wp2_with fail
            go_ret
            exact ⟨by rw [Hp.out, Hc.out]; simp, hw12⟩
        · have e1 : ((⟨(Lib.trimS s.data.toList blank1.data.toList).toArray⟩ : ByteArray).toList == s.toList) = false := by
            rw [beq_eq_false_iff_ne, Go.ByteArray.toList_eq, Go.ByteArray.toList_eq]
            exact fun e => ht (by unfold trimmed; simpa using e)
          have Ht := Lib.hid ht
          clear ht
          generalize (⟨(Lib.trimS s.data.toList blank1.data.toList).toArray⟩ : ByteArray) = t at *
          go_wp2_with fail
          refine HV.out.mono ?_
          rintro e w1 ⟨rfl, hw1⟩
          rw [Hv.out]
          go_wp2_with fail
          refine (HT.out _).mono ?_
          rintro e w2 ⟨rfl, hw2⟩
          go_wp2_with fail
          go_ret
          exact ⟨by rw [Hp.out]; simp [Ht.out], (Kept.of_below hw1).trans (Kept.of_below hw2)⟩

set_option maxHeartbeats 1600000 in
theorem plain_any (s : ByteArray) (w : World) (hs : s.size ≤ 1000000) (hg : Glob w) :
    Calls Tryz.prog 242 #[.string s] w fun e w' => e = .returned (.bool (plainB s)) ∧ All w w' := by
  have HV := Lib.hid (Tryz.utf8_ValidString s w (by omega) hg.tabs)
  have HT := Lib.hid (fun wx => Tryz.strings_Trim_ascii s blank1 wx (by omega) (by decide) (ascii_of_all (by decide)))
  have HG := Lib.hid hg
  clear hg
  go_enter Tryz.func242, Tryz.ntmps242
  go_wp2
  go_loop [3, 6] (fun _ i => ∃ k : Nat, k ≤ s.size ∧ i = .int .i64 k ∧ bytesOk s k) (fun _ i => s.size - (intOf i).toNat)
  case atStart => exact ⟨0, Nat.zero_le _, rfl, fun i _ h => absurd h (by omega)⟩
  case round =>
    obtain ⟨k, hk, rfl, hok⟩ := hrel
    by_cases hlt : k < s.size
    · by_cases h1 : (s[k].toNat : Int) < 32
      · have hf := Lib.hid (plainB_bad (s := s) (fun h => h k hlt hlt (Or.inl h1)))
        have d1 : decide ((s[k].toNat : Int) < 32) = true := by simpa using h1
        go_wp2_with fail
        go_ret
        exact ⟨by rw [hf.out]; rfl, Kept.refl _ _⟩
      · have d1 : decide ((s[k].toNat : Int) < 32) = false := by simpa using h1
        by_cases h2 : (s[k].toNat : Int) = 127
        · have hf := Lib.hid (plainB_bad (s := s) (fun h => h k hlt hlt (Or.inr h2)))
          have d2 : ((s[k].toNat : Int) == 127) = true := by simpa using h2
          clear h2
          go_wp2_with fail
          go_ret
          exact ⟨by rw [hf.out]; rfl, Kept.refl _ _⟩
        · have d2 : ((s[k].toNat : Int) == 127) = false := by simpa using h2
          have hnx := Lib.hid (bytesOk_succ hok hlt (by omega))
          clear h2
          go_wp2_with fail
          go_round
          case rel => exact ⟨k + 1, by omega, by go_num, hnx.out⟩
          case measure => simp [intOf]; omega
    · have hd : decide ((k : Int) < (s.size : Int)) = false := by simp; omega
      have hke : k = s.size := by omega
      subst hke
      have Hp := Lib.hid (plainB_ok hok)
      clear hok
      cases hv : Lib.validD s.data.toList with
      | false =>
        have Hv := Lib.hid hv
        clear hv
        go_wp2_with fail
        refine HV.out.mono ?_
        rintro e w1 ⟨rfl, hw1⟩
        rw [Hv.out]
        go_wp2_with fail
        go_ret
        exact ⟨by rw [Hp.out, Hv.out]; rfl, Kept.of_below hw1⟩
      | true =>
        have Hv := Lib.hid hv
        clear hv
        by_cases ht : trimmed s
        · cases hc : Lib.contains s.data.toList blank2.data.toList with
          | false =>
            have Hc := Lib.hid hc
            clear hc
            go_wp2_with fail
            refine HV.out.mono ?_
            rintro e w1 ⟨rfl, hw1⟩
            rw [Hv.out]
            go_wp2_with fail
            refine (HT.out _).mono ?_
            rintro e w2 ⟨rfl, hw2⟩
            have hw12 := (Kept.of_below hw1).trans (Kept.of_below hw2)
            have Ht := Lib.hid ht
            have ht2 : Lib.trimS s.data.toList blank1.data.toList = s.data.toList := ht
            rw [ht2, string_back]
            clear ht ht2
            have e1 : (s.toList == s.toList) = true := by simp
            obtain ⟨m, hm⟩ := (HG.out.keep hw12).most
            go_wp2_with fail
            refine (Tryz.strings_Contains s blank2 m _ (by omega) hm).mono ?_
            rintro e w3 ⟨rfl, hw3⟩
            subst hw3
            rw [Hc.out]
            go_wp2_with fail
            go_ret
            exact ⟨by rw [Hp.out, Hv.out, Hc.out]; simp [Ht.out], hw12⟩
          | true =>
            have Hc := Lib.hid hc
            clear hc
            go_wp2_with fail
            refine HV.out.mono ?_
            rintro e w1 ⟨rfl, hw1⟩
            rw [Hv.out]
            go_wp2_with fail
            refine (HT.out _).mono ?_
            rintro e w2 ⟨rfl, hw2⟩
            have hw12 := (Kept.of_below hw1).trans (Kept.of_below hw2)
            have ht2 : Lib.trimS s.data.toList blank1.data.toList = s.data.toList := ht
            rw [ht2, string_back]
            clear ht ht2
            have e1 : (s.toList == s.toList) = true := by simp
            obtain ⟨m, hm⟩ := (HG.out.keep hw12).most
            go_wp2_with fail
            refine (Tryz.strings_Contains s blank2 m _ (by omega) hm).mono ?_
            rintro e w3 ⟨rfl, hw3⟩
            subst hw3
            rw [Hc.out]
            go_wp2_with fail
            go_ret
            exact ⟨by rw [Hp.out, Hc.out]; simp, hw12⟩
        · have e1 : ((⟨(Lib.trimS s.data.toList blank1.data.toList).toArray⟩ : ByteArray).toList == s.toList) = false := by
            rw [beq_eq_false_iff_ne, Go.ByteArray.toList_eq, Go.ByteArray.toList_eq]
            exact fun e => ht (by unfold trimmed; simpa using e)
          have Ht := Lib.hid ht
          clear ht
          generalize (⟨(Lib.trimS s.data.toList blank1.data.toList).toArray⟩ : ByteArray) = t at *
          go_wp2_with fail
          refine HV.out.mono ?_
          rintro e w1 ⟨rfl, hw1⟩
          rw [Hv.out]
          go_wp2_with fail
          refine (HT.out _).mono ?_
          rintro e w2 ⟨rfl, hw2⟩
          go_wp2_with fail
          go_ret
          exact ⟨by rw [Hp.out]; simp [Ht.out], (Kept.of_below hw1).trans (Kept.of_below hw2)⟩
end Go.Proofs.YtgobnlgmbplggaaGreatDoor

/- What the library's variables hold, out of a row's cells. -/
namespace Go.Proofs.YtgobnlgmbplggaaGreatDoor
open Go.ChangeShapes Go.WideShapes Go.ChangeAt Go.RowKit

theorem first_eq : Rows.laid_unicode_utf8_first = Lib.firstData := by kernel_rfl
theorem accept_eq : (Rows.laid_unicode_utf8_acceptRanges : DataW Unit) = Lib.acceptData := by kernel_rfl
end Go.Proofs.YtgobnlgmbplggaaGreatDoor

/- Rows that list utf8's two tables, strconv's powers, bits' two and strconv's two errors: a world for the witness; what the tables hold. -/
namespace Go.Proofs.YtgobnlgmbplggaaGreatDoor
open Go.ChangeShapes Go.WideShapes Go.ChangeAt Go.RowKit

def litCellN : DataW Unit → Value
  | .lit (.int k n) => .int k n
  | _ => .int .i64 0
def litCellsN : DataW Unit → Array Value
  | .agg ps => (ps.map litCellN).toArray
  | _ => #[]
noncomputable def laidWorldE (os : Os) : World :=
  { laidWorld os with heap := ((((((laidWorld os).heap.modify 6 (setTab (litCellsN Rows.laid_math_bits_deBruijn32tab))).modify 7 (setTab (litCellsN Rows.laid_math_bits_deBruijn64tab))).modify 5 (setTab (litCellsN Rows.laid_internal_strconv_uint64pow10))).modify 4 (setTab #[.iface 324 (.pointer (some ⟨(laidWorld os).heap.size, 0, none⟩))])).modify 3 (setTab #[.iface 324 (.pointer (some ⟨(laidWorld os).heap.size + 1, 0, none⟩))])) ++ #[.cells #[.string ⟨#[118, 97, 108, 117, 101, 32, 111, 117, 116, 32, 111, 102, 32, 114, 97, 110, 103, 101]⟩] 326 (0, 0), .cells #[.string ⟨#[105, 110, 118, 97, 108, 105, 100, 32, 115, 121, 110, 116, 97, 120]⟩] 326 (0, 0)] }
theorem glob_ofE {W : World} (hL : laidMet Tryz.prog [("math/bits.deBruijn32tab", Rows.laid_math_bits_deBruijn32tab), ("math/bits.deBruijn64tab", Rows.laid_math_bits_deBruijn64tab), ("internal/strconv.uint64pow10", Rows.laid_internal_strconv_uint64pow10), ("unicode/utf8.acceptRanges", Rows.laid_unicode_utf8_acceptRanges), ("strconv.ErrRange", Rows.laid_strconv_ErrRange), ("strconv.ErrSyntax", Rows.laid_strconv_ErrSyntax), ("unicode/utf8.first", Rows.laid_unicode_utf8_first)] W) (hS : W.ShapedOpen Tryz.prog) : Glob W := by
  refine ⟨Tryz.utf8_tabs ?_ ?_, ?_⟩
  · rw [← first_eq]; exact Lib.laidMet.reads hL (by simp)
  · rw [← accept_eq]; exact Lib.laidMet.reads hL (by simp)
  · exact cell_of_shapedOpen_int (t := 3) (zero := #[.int .i64 0]) hS (of_decide_eq_true (by kernel_rfl)) (by kernel_rfl) rfl (by kernel_rfl) (by kernel_rfl) Tryz.underlying3
end Go.Proofs.YtgobnlgmbplggaaGreatDoor

/- Rows that list bits' tables: the heap holds eight blocks and more. -/
namespace Go.Proofs.YtgobnlgmbplggaaGreatDoor
open Go.ChangeShapes Go.WideShapes Go.ChangeAt Go.RowKit

/-- Eight blocks and more. -/
def Big (w : World) : Prop := 7 < w.heap.size
theorem deb_named : Tryz.prog.globalNamed "math/bits.deBruijn64tab" = some 7 := by kernel_rfl
theorem big_ofE {W : World} (hL : laidMet Tryz.prog [("math/bits.deBruijn32tab", Rows.laid_math_bits_deBruijn32tab), ("math/bits.deBruijn64tab", Rows.laid_math_bits_deBruijn64tab), ("internal/strconv.uint64pow10", Rows.laid_internal_strconv_uint64pow10), ("unicode/utf8.acceptRanges", Rows.laid_unicode_utf8_acceptRanges), ("strconv.ErrRange", Rows.laid_strconv_ErrRange), ("strconv.ErrSyntax", Rows.laid_strconv_ErrSyntax), ("unicode/utf8.first", Rows.laid_unicode_utf8_first)] W) : Big W := by
  obtain ⟨g', t', cs, fuel, p, hg', ht', hvar, hd⟩ : Lib.VarReads Tryz.prog W "math/bits.deBruijn64tab" Rows.laid_math_bits_deBruijn64tab := Lib.laidMet.reads hL (by simp)
  unfold World.var? at hvar
  rw [deb_named] at hvar
  simp only [Option.bind_some] at hvar
  show 7 < W.heap.size
  rcases Nat.lt_or_ge 7 W.heap.size with h | h
  · exact h
  · rw [Array.getElem?_eq_none h] at hvar; exact nomatch hvar
end Go.Proofs.YtgobnlgmbplggaaGreatDoor
