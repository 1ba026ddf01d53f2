/- IsText, of the program and of the reference. -/
import Derived.Test.YthhmgblcccbdaaaGreatDoorDb
import Derived.Test.YthhmgblcccbdaaaGreatDoorZc
import Derived.Test.YthhmgblcccbdaaaGreatDoorSi
import Derived.Test.YthhmgblcccbdaaaGreatDoorSo
namespace Go.Proofs.YthhmgblcccbdaaaGreatDoor
open Go.RowKit

structure Tabs (w : World) : Prop where
 tabs : Lib.Utf8Tabs 1 2 w
theorem Tabs.kept {F : Nat → Prop} {w w' : World} (h : Tabs w) (k : Kept F w w') (h0 : F 1) (h1 : F 2) : Tabs w' :=
 ⟨⟨fun c hc => k.cell (h.tabs.1 c hc) h0, fun i hi => ⟨k.cell (h.tabs.2 i hi).1 h1, k.cell (h.tabs.2 i hi).2 h1⟩⟩⟩
theorem Tabs.keep {w w' : World} (h : Tabs w) (k : All w w') : Tabs w' := h.kept k trivial trivial
theorem Tabs.but {w w' : World} {b : Nat} (h : Tabs w) (k : But b w w') (hb : 200 < b) : Tabs w' := h.kept k (by omega) (by omega)

theorem isTextB_bad {s : ByteArray} (h : ¬ textOk s s.size) : isTextB s = false := by simp [isTextB, h]
theorem isTextB_ok {s : ByteArray} (h : textOk s s.size) : isTextB s = (Lib.validD s.data.toList && (decide (s.size = 0) || decide (s.data.toList.getLast? = some 10))) := by simp [isTextB, h]
theorem last_get {s : ByteArray} (h : 0 < s.size) : s.data.toList.getLast? = some (s[s.size - 1]'(by omega)) := by
 rw [List.getLast?_eq_getElem?]
 have hl : s.data.toList.length = s.size := by rw [Array.length_toList]; rfl
 rw [hl, List.getElem?_eq_getElem (by omega)]
 rfl
theorem suffix_iff {s : ByteArray} (_h : 0 < s.size) : Lib.hasSuffix s.data.toList [10] = decide (s.data.toList.getLast? = some 10) := by
 unfold Lib.hasSuffix
 rw [Bool.eq_iff_iff, decide_eq_true_iff, List.isSuffixOf_iff_suffix]
 constructor
 ·rintro ⟨t, ht⟩
  rw [← ht]; simp
 ·intro hl
  obtain ⟨t, ht⟩ := List.getLast?_eq_some_iff.1 hl
  exact ⟨t, ht.symm⟩

set_option maxHeartbeats 1600000 in
theorem isText_any (s : ByteArray) (w : World) (hs : s.size ≤ 1000000) (hg : Tabs w) :
  Calls Tryz.prog 171 #[.string s] w fun e w' => e = .returned (.bool (isTextB s)) ∧ All w w' := by
 have HV := Lib.hid (Tryz.utf8_ValidString s w (by omega) hg.tabs)
 have HH := Lib.hid (fun wx => Tryz.strings_HasSuffix s ⟨#[10]⟩ wx (by omega))
 clear hg
 go_enter Tryz.func171, Tryz.ntmps171
 go_wp2
 go_loop [3] (fun i => ∃ k : Nat, k ≤ s.size ∧ i = .int .i64 k ∧ textOk s k) (fun i => s.size - (intOf i).toNat)
 case atStart => exact ⟨0, Nat.zero_le _, rfl, fun i _ h => absurd h (by omega)⟩
 case round =>
  obtain ⟨k, hk, rfl, hok⟩ := hrel
  by_cases hlt : k < s.size
  ·by_cases h3 : (s[k].toNat : Int) = 127
   ·have hf := Lib.hid (isTextB_bad (s := s) (fun h => h k hlt hlt (Or.inr h3)))
    have d3 : ((s[k].toNat : Int) == 127) = true := by simpa using h3
    have d1 : decide ((s[k].toNat : Int) < 32) = false := by simp [h3]
    clear h3
    go_wp2_with fail
    go_ret
    exact ⟨by rw [hf.out]; rfl, Kept.refl _ _⟩
   ·have d3 : ((s[k].toNat : Int) == 127) = false := by simpa using h3
    by_cases h1 : (s[k].toNat : Int) < 32
    ·have d1 : decide ((s[k].toNat : Int) < 32) = true := by simpa using h1
     by_cases h2 : (s[k].toNat : Int) = 10
     ·have d2 : ((s[k].toNat : Int) != 10) = false := by simpa using h2
      have hnx := Lib.hid (textOk_succ hok hlt (by omega))
      clear h2 h3
      go_wp2_with fail
      go_round
      case rel => exact ⟨k + 1, by omega, by go_num, hnx.out⟩
      case measure => simp [intOf]; omega
     ·have d2 : ((s[k].toNat : Int) != 10) = true := by simpa using h2
      have hf := Lib.hid (isTextB_bad (s := s) (fun h => h k hlt hlt (Or.inl ⟨h1, h2⟩)))
      clear h2 h3
      go_wp2_with fail
      go_ret
      exact ⟨by rw [hf.out]; rfl, Kept.refl _ _⟩
    ·have d1 : decide ((s[k].toNat : Int) < 32) = false := by simpa using h1
     have hnx := Lib.hid (textOk_succ hok hlt (by omega))
     clear h3
     go_wp2_with fail
     go_round
     case rel => exact ⟨k + 1, by omega, by go_num, hnx.out⟩
     case measure => simp [intOf]; omega
  ·have hd : decide ((k : Int) < (s.size : Int)) = false := by simp; omega
   have hke : k = s.size := by omega
   subst hke
   have Hp := Lib.hid (isTextB_ok hok)
   clear hok
   cases hv : Lib.validD s.data.toList with
   | false =>
    have Hv := Lib.hid hv
    clear hv
    go_wp2_with fail
    refine HV.out.mono ?_
    rintro e w1 ⟨rfl, hw1⟩
    rw [Hv.out]
    go_wp2_with fail
    go_ret
    exact ⟨by rw [Hp.out, Hv.out]; rfl, Kept.of_below hw1⟩
   | true =>
    have Hv := Lib.hid hv
    clear hv
    by_cases h0 : s.size = 0
    ·have he : s.toList = [] := toList_nil h0
     have Hf := Lib.hid (show isTextB s = true by rw [Hp.out, Hv.out]; simp [h0])
     clear h0
     go_wp2_with fail
     refine HV.out.mono ?_
     rintro e w1 ⟨rfl, hw1⟩
     rw [Hv.out]
     go_wp2_with fail
     go_ret
     exact ⟨by rw [Hf.out]; rfl, Kept.of_below hw1⟩
    ·have he : s.toList ≠ [] := toList_ne h0
     have hd : s.toList.isEmpty = false := by simpa using he
     have Hf := Lib.hid (show isTextB s = Lib.hasSuffix s.data.toList [10] by rw [Hp.out, Hv.out, suffix_iff (by omega)]; simp [h0])
     clear h0
     go_wp2_with fail
     refine HV.out.mono ?_
     rintro e w1 ⟨rfl, hw1⟩
     rw [Hv.out]
     go_wp2_with fail
     refine (HH.out _).mono ?_
     rintro e w2 ⟨rfl, hh⟩
     subst hh
     go_wp2_with fail
     go_ret
     exact ⟨by rw [Hf.out]; rfl, Kept.of_below hw1⟩

set_option maxHeartbeats 1600000 in
theorem isTextR_any (s : ByteArray) (w : World) (hs : s.size ≤ 1000000) (hg : Tabs w) :
  Calls Tryz.prog 175 #[.string s] w fun e w' => e = .returned (.bool (isTextB s)) ∧ All w w' := by
 have HV := Lib.hid (Tryz.utf8_ValidString s w (by omega) hg.tabs)
 clear hg
 go_enter Tryz.func175, Tryz.ntmps175
 go_wp2
 go_loop [3, 6] (fun _ i => ∃ k : Nat, k ≤ s.size ∧ i = .int .i64 k ∧ textOk s k) (fun _ i => s.size - (intOf i).toNat)
 case atStart => exact ⟨0, Nat.zero_le _, rfl, fun i _ h => absurd h (by omega)⟩
 case round =>
  obtain ⟨k, hk, rfl, hok⟩ := hrel
  by_cases hlt : k < s.size
  ·by_cases h3 : (s[k].toNat : Int) = 127
   ·have hf := Lib.hid (isTextB_bad (s := s) (fun h => h k hlt hlt (Or.inr h3)))
    have d3 : ((s[k].toNat : Int) == 127) = true := by simpa using h3
    have d1 : decide ((s[k].toNat : Int) < 32) = false := by simp [h3]
    clear h3
    go_wp2_with fail
    go_ret
    exact ⟨by rw [hf.out]; rfl, Kept.refl _ _⟩
   ·have d3 : ((s[k].toNat : Int) == 127) = false := by simpa using h3
    by_cases h1 : (s[k].toNat : Int) < 32
    ·have d1 : decide ((s[k].toNat : Int) < 32) = true := by simpa using h1
     by_cases h2 : (s[k].toNat : Int) = 10
     ·have d2 : ((s[k].toNat : Int) != 10) = false := by simpa using h2
      have hnx := Lib.hid (textOk_succ hok hlt (by omega))
      clear h2 h3
      go_wp2_with fail
      go_round
      case rel => exact ⟨k + 1, by omega, by go_num, hnx.out⟩
      case measure => simp [intOf]; omega
     ·have d2 : ((s[k].toNat : Int) != 10) = true := by simpa using h2
      have hf := Lib.hid (isTextB_bad (s := s) (fun h => h k hlt hlt (Or.inl ⟨h1, h2⟩)))
      clear h2 h3
      go_wp2_with fail
      go_ret
      exact ⟨by rw [hf.out]; rfl, Kept.refl _ _⟩
    ·have d1 : decide ((s[k].toNat : Int) < 32) = false := by simpa using h1
     have hnx := Lib.hid (textOk_succ hok hlt (by omega))
     clear h3
     go_wp2_with fail
     go_round
     case rel => exact ⟨k + 1, by omega, by go_num, hnx.out⟩
     case measure => simp [intOf]; omega
  ·have hd : decide ((k : Int) < (s.size : Int)) = false := by simp; omega
   have hke : k = s.size := by omega
   subst hke
   have Hp := Lib.hid (isTextB_ok hok)
   clear hok
   cases hv : Lib.validD s.data.toList with
   | false =>
    have Hv := Lib.hid hv
    clear hv
    go_wp2_with fail
    refine HV.out.mono ?_
    rintro e w1 ⟨rfl, hw1⟩
    rw [Hv.out]
    go_wp2_with fail
    go_ret
    exact ⟨by rw [Hp.out, Hv.out]; rfl, Kept.of_below hw1⟩
   | true =>
    have Hv := Lib.hid hv
    clear hv
    by_cases h0 : s.size = 0
    ·have he : s.toList = [] := toList_nil h0
     have Hf := Lib.hid (show isTextB s = true by rw [Hp.out, Hv.out]; simp [h0])
     clear h0
     go_wp2_with fail
     refine HV.out.mono ?_
     rintro e w1 ⟨rfl, hw1⟩
     rw [Hv.out]
     go_wp2_with fail
     go_ret
     exact ⟨by rw [Hf.out]; rfl, Kept.of_below hw1⟩
    ·have he : s.toList ≠ [] := toList_ne h0
     have hd : s.toList.isEmpty = false := by simpa using he
     have hl1 : s.size - 1 < s.size := by omega
     have Hf := Lib.hid (show isTextB s = decide ((s[s.size - 1].toNat : Int) = 10) by
      rw [Hp.out, Hv.out, last_get (by omega)]
      simp only [h0, decide_false, Bool.false_or, Bool.true_and, Option.some.injEq]
      rw [Bool.eq_iff_iff, decide_eq_true_iff, decide_eq_true_iff]
      constructor
      ·intro h; rw [h]; rfl
      ·intro h
       have h8 : s[s.size - 1].toNat = 10 := by omega
       exact UInt8.toNat_inj.1 h8)
     clear h0
     by_cases h8 : (s[s.size - 1].toNat : Int) = 10
     ·have d8 : ((s[s.size - 1].toNat : Int) == 10) = true := by simpa using h8
      have Hf2 := Lib.hid (Hf.out.trans (decide_eq_true h8))
      clear h8 Hf
      go_wp2_with fail
      refine HV.out.mono ?_
      rintro e w1 ⟨rfl, hw1⟩
      rw [Hv.out]
      go_wp2_with fail
      go_ret
      exact ⟨by rw [Hf2.out]; rfl, Kept.of_below hw1⟩
     ·have d8 : ((s[s.size - 1].toNat : Int) == 10) = false := by simpa using h8
      have Hf2 := Lib.hid (Hf.out.trans (decide_eq_false h8))
      clear h8 Hf
      go_wp2_with fail
      refine HV.out.mono ?_
      rintro e w1 ⟨rfl, hw1⟩
      rw [Hv.out]
      go_wp2_with fail
      go_ret
      exact ⟨by rw [Hf2.out]; rfl, Kept.of_below hw1⟩
end Go.Proofs.YthhmgblcccbdaaaGreatDoor
