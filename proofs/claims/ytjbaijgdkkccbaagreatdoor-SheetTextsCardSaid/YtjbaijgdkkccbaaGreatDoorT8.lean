/- kit.Words, kit.Small; readQuestion's flags, kindOf. -/
import Derived.Test.YtjbaijgdkkccbaaGreatDoorT5
import Derived.Test.YtjbaijgdkkccbaaGreatDoorT3
import Derived.Test.YtjbaijgdkkccbaaGreatDoorSo
import Derived.Test.YtjbaijgdkkccbaaGreatDoorAj
namespace Go.Proofs.YtjbaijgdkkccbaaGreatDoor
open Go.RowKit

theorem words_any (s : ByteArray) (n : Nat) (w : World) (hs : s.size ≤ 900000) (hn : (rowsB spB s).length = n) (hg : Glob w) :
    Calls Tryz.prog 184 #[.string s] w fun e w' => e = .returned (.tuple #[.slice (some ⟨w.heap.size, 0, none⟩) n n, .bool (!memB emptB (rowsB spB s))]) ∧ w' = w.alloc (.cells ((rowsB spB s).map Value.string).toArray 9) := by
  obtain ⟨mx, hmx⟩ := hg.most
  have hsp := Lib.hid (Tryz.strings_Split s spB mx w (by omega) hmx (by decide))
  have hln := rowsB_len spB s (by decide)
  rw [hn] at hln
  rw [← hln] at hsp
  have hle := rowsB_le spB s (by decide)
  have hsz := rowsB_size spB s
  have hsp2 := Lib.hid (show Calls Tryz.prog 121 #[.string s, .string spB] w fun e w' => e = .returned (.slice (some ⟨w.heap.size, 0, none⟩) n n) ∧ w' = w.alloc (.cells ((rowsB spB s).map Value.string).toArray 9) from hsp.out)
  obtain ⟨ws, hws⟩ : ∃ z, z = rowsB spB s := ⟨_, rfl⟩
  rw [← hws] at hn hle hsz hsp2 ⊢
  obtain ⟨ob, hob⟩ : ∃ o : Obj, o = .cells (ws.map Value.string).toArray 9 := ⟨_, rfl⟩
  rw [← hob] at hsp2 ⊢
  have hblk := heap_at w ob _ rfl
  rw [hob] at hblk
  rw [← hob] at hblk
  have hsl : Sl RStr 1 (fun _ => True) (w.alloc ob) (some ⟨w.heap.size, 0, none⟩) n ws := Sl.of_strs hn trivial (fun i hi => by
    rw [hob] at hblk
    exact cell_at (by rw [← hob] at hblk; rw [hob] at hblk ⊢; exact hblk) (by rw [Nat.zero_add]; simp [List.getD_eq_getElem?_getD, List.getElem?_eq_getElem (show i < ws.length by omega)])) (fun x hx => by have := hsz x hx; omega)
  have hc := Lib.hid (contains_any (some ⟨w.heap.size, 0, none⟩) n n ws emptB (w.alloc ob) hsl (by omega))
  obtain ⟨bt, hbt⟩ : ∃ z, z = memB emptB ws := ⟨_, rfl⟩
  rw [← hbt] at hc ⊢
  clear hmx hblk hsp hsl hln hle hsz hws hob hbt hn hg
  go_enter Tryz.func184, Tryz.ntmps184
  go_wp2_with fail
  refine hsp2.out.mono ?_
  rintro e w2 ⟨rfl, rfl⟩
  go_wp2_with fail
  refine hc.out.mono ?_
  rintro e w3 ⟨rfl, hh⟩
  subst hh
  go_wp2_with fail
  go_ret2
  exact ⟨rfl, rfl⟩
theorem take_none (p : ByteArray) (kp : Nat) (a : Option Addr) (c : Nat) (w : World) (hk : w.cell? ⟨kp, 0, none⟩ = some (.slice a 0 c)) :
    Calls Tryz.prog 185 #[.string p, .pointer (some ⟨kp, 0, none⟩)] w fun e w' => e = .returned (.bool false) ∧ w = w' := by
  go_enter Tryz.func185, Tryz.ntmps185
  go_wp2_with fail
  go_ret
  exact ⟨rfl, rfl⟩
theorem take_no (p x : ByteArray) (kp b d m c : Nat) (w : World) (hk : w.cell? ⟨kp, 0, none⟩ = some (.slice (some ⟨b, d, none⟩) m c)) (hm : 0 < m) (hb : w.cell? ⟨b, d, none⟩ = some (.string x)) (hp : x ≠ p) :
    Calls Tryz.prog 185 #[.string p, .pointer (some ⟨kp, 0, none⟩)] w fun e w' => e = .returned (.bool false) ∧ w = w' := by
  have hd : (x.toList == p.toList) = false := by rw [beq_eq_false_iff_ne]; exact fun e => hp (bytes_ext e)
  have hmd : decide ((0 : Int) < (m : Int)) = true := by simp; omega
  clear hp
  go_enter Tryz.func185, Tryz.ntmps185
  go_wp2_with fail
  go_ret
  exact ⟨rfl, rfl⟩
theorem take_yes (p : ByteArray) (kp b d m c : Nat) (w : World) (hk : w.cell? ⟨kp, 0, none⟩ = some (.slice (some ⟨b, d, none⟩) m c)) (hf : w.frozen? ⟨kp, 0, none⟩ = false) (hm : 0 < m) (hmc : m ≤ c) (hb : w.cell? ⟨b, d, none⟩ = some (.string p)) :
    Calls Tryz.prog 185 #[.string p, .pointer (some ⟨kp, 0, none⟩)] w fun e w' => e = .returned (.bool true) ∧ w' = w.setCell ⟨kp, 0, none⟩ (.slice (some ⟨b, if c = 1 then d else d + 1, none⟩) (m - 1) (c - 1)) := by
  have hd : (p.toList == p.toList) = true := by simp
  have hmd : decide ((0 : Int) < (m : Int)) = true := by simp; omega
  have h1 : (1 : Int) ≤ (m : Int) := by omega
  have h2 : (m : Int) ≤ (c : Int) := by omega
  by_cases hc : c = 1
  · obtain rfl : m = 1 := by omega
    subst hc
    rw [if_pos rfl]
    go_enter Tryz.func185, Tryz.ntmps185
    go_wp2_with fail
    go_ret
    exact ⟨rfl, rfl⟩
  · rw [if_neg hc]
    go_enter Tryz.func185, Tryz.ntmps185
    go_wp2_with fail
    go_ret
    exact ⟨rfl, rfl⟩
set_option maxHeartbeats 3200000 in
theorem kindOf_any (s : ByteArray) (w : World) : Calls Tryz.prog 186 #[.string s] w fun e w' => e = .returned (.int .i64 (kindN s)) ∧ All w w' := by
  have HK := Lib.hid (kindWords_any w)
  have hd1 : (([115, 99, 111, 114, 101] : List UInt8) == s.toList) = decide (s = scorB) := by
    have e0 : scorB.toList = [115, 99, 111, 114, 101] := by rw [Go.ByteArray.toList_eq]; rfl
    rw [← e0]
    by_cases h : s = scorB
    · rw [h, decide_eq_true rfl]; simp
    · rw [decide_eq_false h, beq_eq_false_iff_ne]; exact fun e => h (bytes_ext (e.symm))
  have hd2 : (([99, 104, 111, 105, 99, 101] : List UInt8) == s.toList) = decide (s = choiB) := by
    have e0 : choiB.toList = [99, 104, 111, 105, 99, 101] := by rw [Go.ByteArray.toList_eq]; rfl
    rw [← e0]
    by_cases h : s = choiB
    · rw [h, decide_eq_true rfl]; simp
    · rw [decide_eq_false h, beq_eq_false_iff_ne]; exact fun e => h (bytes_ext (e.symm))
  have hd3 : (([119, 111, 114, 100, 115] : List UInt8) == s.toList) = decide (s = wordB) := by
    have e0 : wordB.toList = [119, 111, 114, 100, 115] := by rw [Go.ByteArray.toList_eq]; rfl
    rw [← e0]
    by_cases h : s = wordB
    · rw [h, decide_eq_true rfl]; simp
    · rw [decide_eq_false h, beq_eq_false_iff_ne]; exact fun e => h (bytes_ext (e.symm))
  have key : (s = scorB ∧ kindN s = 1) ∨ (s ≠ scorB ∧ s = choiB ∧ kindN s = 2) ∨ (s ≠ scorB ∧ s ≠ choiB ∧ s = wordB ∧ kindN s = 3) ∨ (s ≠ scorB ∧ s ≠ choiB ∧ s ≠ wordB ∧ kindN s = 0) := by
    unfold kindN
    by_cases h1 : s = scorB
    · exact .inl ⟨h1, if_pos h1⟩
    · by_cases h2 : s = choiB
      · exact .inr (.inl ⟨h1, h2, by rw [if_neg h1, if_pos h2]⟩)
      · by_cases h3 : s = wordB
        · exact .inr (.inr (.inl ⟨h1, h2, h3, by rw [if_neg h1, if_neg h2, if_pos h3]⟩))
        · exact .inr (.inr (.inr ⟨h1, h2, h3, by rw [if_neg h1, if_neg h2, if_neg h3]⟩))
  obtain ⟨kn, hkn⟩ : ∃ z, z = kindN s := ⟨_, rfl⟩
  rw [← hkn] at key ⊢
  obtain ⟨b1, hb1⟩ : ∃ z, z = decide (s = scorB) := ⟨_, rfl⟩
  obtain ⟨b2, hb2⟩ : ∃ z, z = decide (s = choiB) := ⟨_, rfl⟩
  obtain ⟨b3, hb3⟩ : ∃ z, z = decide (s = wordB) := ⟨_, rfl⟩
  rw [← hb1] at hd1
  rw [← hb2] at hd2
  rw [← hb3] at hd3
  have hcase : (b1 = true ∧ kn = 1) ∨ (b1 = false ∧ b2 = true ∧ kn = 2) ∨ (b1 = false ∧ b2 = false ∧ b3 = true ∧ kn = 3) ∨ (b1 = false ∧ b2 = false ∧ b3 = false ∧ kn = 0) := by
    rw [hb1, hb2, hb3]
    simp only [decide_eq_true_eq, decide_eq_false_iff_not]
    exact key
  clear key hb1 hb2 hb3 hkn
  rcases hcase with ⟨rfl, rfl⟩ | ⟨rfl, rfl, rfl⟩ | ⟨rfl, rfl, rfl, rfl⟩ | ⟨rfl, rfl, rfl, rfl⟩
  · go_enter Tryz.func186, Tryz.ntmps186
    go_wp2_with fail
    refine HK.out.mono ?_
    rintro e w2 ⟨⟨v9, rfl, kb, rfl, hkb⟩, hk2⟩
    have c0 : w2.cell? ⟨kb, 0, none⟩ = some (.string ⟨#[]⟩) := cell_at hkb rfl
    have c1 : w2.cell? ⟨kb, 1, none⟩ = some (.string ⟨#[115, 99, 111, 114, 101]⟩) := cell_at hkb rfl
    have c2 : w2.cell? ⟨kb, 2, none⟩ = some (.string ⟨#[99, 104, 111, 105, 99, 101]⟩) := cell_at hkb rfl
    have c3 : w2.cell? ⟨kb, 3, none⟩ = some (.string ⟨#[119, 111, 114, 100, 115]⟩) := cell_at hkb rfl
    have HK2 := Lib.hid hk2
    clear hkb hk2
    simp only [List.length_cons, List.length_nil]
    go_wp2_with fail
    go_loopw [7] (fun i wr => ∃ k : Nat, k ≤ 1 ∧ i = .int .i64 k ∧ wr = w2) (fun i _ => 4 - (intOf i).toNat)
    case atStart => exact ⟨0, Nat.zero_le _, rfl, rfl⟩
    case round =>
      obtain ⟨k, hk, rfl, rfl⟩ := hrel
      have hk2 : k = 0 ∨ k = 1 ∨ k = 2 ∨ k = 3 ∨ k = 4 := by omega
      rcases hk2 with rfl | rfl | rfl | rfl | rfl
      · first
        | (exfalso; omega)
        | (go_wp2_with fail
           go_roundw
           case rel => exact ⟨1, by omega, by go_num, by first | rfl | trivial⟩
           case measure => simp [intOf])
      · first
        | (exfalso; omega)
        | (go_wp2_with fail
           go_roundw
           case rel => exact ⟨2, by omega, by go_num, by first | rfl | trivial⟩
           case measure => simp [intOf])
        | (go_wp2_with fail
           go_ret
           exact ⟨rfl, HK2.out⟩)
      · first
        | (exfalso; omega)
        | (go_wp2_with fail
           go_roundw
           case rel => exact ⟨3, by omega, by go_num, by first | rfl | trivial⟩
           case measure => simp [intOf])
        | (go_wp2_with fail
           go_ret
           exact ⟨rfl, HK2.out⟩)
      · first
        | (exfalso; omega)
        | (go_wp2_with fail
           go_roundw
           case rel => exact ⟨4, by omega, by go_num, by first | rfl | trivial⟩
           case measure => simp [intOf])
        | (go_wp2_with fail
           go_ret
           exact ⟨rfl, HK2.out⟩)
      · first
        | (exfalso; omega)
        | (go_wp2_with fail
           go_ret
           exact ⟨rfl, HK2.out⟩)
  · go_enter Tryz.func186, Tryz.ntmps186
    go_wp2_with fail
    refine HK.out.mono ?_
    rintro e w2 ⟨⟨v9, rfl, kb, rfl, hkb⟩, hk2⟩
    have c0 : w2.cell? ⟨kb, 0, none⟩ = some (.string ⟨#[]⟩) := cell_at hkb rfl
    have c1 : w2.cell? ⟨kb, 1, none⟩ = some (.string ⟨#[115, 99, 111, 114, 101]⟩) := cell_at hkb rfl
    have c2 : w2.cell? ⟨kb, 2, none⟩ = some (.string ⟨#[99, 104, 111, 105, 99, 101]⟩) := cell_at hkb rfl
    have c3 : w2.cell? ⟨kb, 3, none⟩ = some (.string ⟨#[119, 111, 114, 100, 115]⟩) := cell_at hkb rfl
    have HK2 := Lib.hid hk2
    clear hkb hk2
    simp only [List.length_cons, List.length_nil]
    go_wp2_with fail
    go_loopw [7] (fun i wr => ∃ k : Nat, k ≤ 2 ∧ i = .int .i64 k ∧ wr = w2) (fun i _ => 4 - (intOf i).toNat)
    case atStart => exact ⟨0, Nat.zero_le _, rfl, rfl⟩
    case round =>
      obtain ⟨k, hk, rfl, rfl⟩ := hrel
      have hk2 : k = 0 ∨ k = 1 ∨ k = 2 ∨ k = 3 ∨ k = 4 := by omega
      rcases hk2 with rfl | rfl | rfl | rfl | rfl
      · first
        | (exfalso; omega)
        | (go_wp2_with fail
           go_roundw
           case rel => exact ⟨1, by omega, by go_num, by first | rfl | trivial⟩
           case measure => simp [intOf])
      · first
        | (exfalso; omega)
        | (go_wp2_with fail
           go_roundw
           case rel => exact ⟨2, by omega, by go_num, by first | rfl | trivial⟩
           case measure => simp [intOf])
        | (go_wp2_with fail
           go_ret
           exact ⟨rfl, HK2.out⟩)
      · first
        | (exfalso; omega)
        | (go_wp2_with fail
           go_roundw
           case rel => exact ⟨3, by omega, by go_num, by first | rfl | trivial⟩
           case measure => simp [intOf])
        | (go_wp2_with fail
           go_ret
           exact ⟨rfl, HK2.out⟩)
      · first
        | (exfalso; omega)
        | (go_wp2_with fail
           go_roundw
           case rel => exact ⟨4, by omega, by go_num, by first | rfl | trivial⟩
           case measure => simp [intOf])
        | (go_wp2_with fail
           go_ret
           exact ⟨rfl, HK2.out⟩)
      · first
        | (exfalso; omega)
        | (go_wp2_with fail
           go_ret
           exact ⟨rfl, HK2.out⟩)
  · go_enter Tryz.func186, Tryz.ntmps186
    go_wp2_with fail
    refine HK.out.mono ?_
    rintro e w2 ⟨⟨v9, rfl, kb, rfl, hkb⟩, hk2⟩
    have c0 : w2.cell? ⟨kb, 0, none⟩ = some (.string ⟨#[]⟩) := cell_at hkb rfl
    have c1 : w2.cell? ⟨kb, 1, none⟩ = some (.string ⟨#[115, 99, 111, 114, 101]⟩) := cell_at hkb rfl
    have c2 : w2.cell? ⟨kb, 2, none⟩ = some (.string ⟨#[99, 104, 111, 105, 99, 101]⟩) := cell_at hkb rfl
    have c3 : w2.cell? ⟨kb, 3, none⟩ = some (.string ⟨#[119, 111, 114, 100, 115]⟩) := cell_at hkb rfl
    have HK2 := Lib.hid hk2
    clear hkb hk2
    simp only [List.length_cons, List.length_nil]
    go_wp2_with fail
    go_loopw [7] (fun i wr => ∃ k : Nat, k ≤ 3 ∧ i = .int .i64 k ∧ wr = w2) (fun i _ => 4 - (intOf i).toNat)
    case atStart => exact ⟨0, Nat.zero_le _, rfl, rfl⟩
    case round =>
      obtain ⟨k, hk, rfl, rfl⟩ := hrel
      have hk2 : k = 0 ∨ k = 1 ∨ k = 2 ∨ k = 3 ∨ k = 4 := by omega
      rcases hk2 with rfl | rfl | rfl | rfl | rfl
      · first
        | (exfalso; omega)
        | (go_wp2_with fail
           go_roundw
           case rel => exact ⟨1, by omega, by go_num, by first | rfl | trivial⟩
           case measure => simp [intOf])
      · first
        | (exfalso; omega)
        | (go_wp2_with fail
           go_roundw
           case rel => exact ⟨2, by omega, by go_num, by first | rfl | trivial⟩
           case measure => simp [intOf])
        | (go_wp2_with fail
           go_ret
           exact ⟨rfl, HK2.out⟩)
      · first
        | (exfalso; omega)
        | (go_wp2_with fail
           go_roundw
           case rel => exact ⟨3, by omega, by go_num, by first | rfl | trivial⟩
           case measure => simp [intOf])
        | (go_wp2_with fail
           go_ret
           exact ⟨rfl, HK2.out⟩)
      · first
        | (exfalso; omega)
        | (go_wp2_with fail
           go_roundw
           case rel => exact ⟨4, by omega, by go_num, by first | rfl | trivial⟩
           case measure => simp [intOf])
        | (go_wp2_with fail
           go_ret
           exact ⟨rfl, HK2.out⟩)
      · first
        | (exfalso; omega)
        | (go_wp2_with fail
           go_ret
           exact ⟨rfl, HK2.out⟩)
  · go_enter Tryz.func186, Tryz.ntmps186
    go_wp2_with fail
    refine HK.out.mono ?_
    rintro e w2 ⟨⟨v9, rfl, kb, rfl, hkb⟩, hk2⟩
    have c0 : w2.cell? ⟨kb, 0, none⟩ = some (.string ⟨#[]⟩) := cell_at hkb rfl
    have c1 : w2.cell? ⟨kb, 1, none⟩ = some (.string ⟨#[115, 99, 111, 114, 101]⟩) := cell_at hkb rfl
    have c2 : w2.cell? ⟨kb, 2, none⟩ = some (.string ⟨#[99, 104, 111, 105, 99, 101]⟩) := cell_at hkb rfl
    have c3 : w2.cell? ⟨kb, 3, none⟩ = some (.string ⟨#[119, 111, 114, 100, 115]⟩) := cell_at hkb rfl
    have HK2 := Lib.hid hk2
    clear hkb hk2
    simp only [List.length_cons, List.length_nil]
    go_wp2_with fail
    go_loopw [7] (fun i wr => ∃ k : Nat, k ≤ 4 ∧ i = .int .i64 k ∧ wr = w2) (fun i _ => 4 - (intOf i).toNat)
    case atStart => exact ⟨0, Nat.zero_le _, rfl, rfl⟩
    case round =>
      obtain ⟨k, hk, rfl, rfl⟩ := hrel
      have hk2 : k = 0 ∨ k = 1 ∨ k = 2 ∨ k = 3 ∨ k = 4 := by omega
      rcases hk2 with rfl | rfl | rfl | rfl | rfl
      · first
        | (exfalso; omega)
        | (go_wp2_with fail
           go_roundw
           case rel => exact ⟨1, by omega, by go_num, by first | rfl | trivial⟩
           case measure => simp [intOf])
      · first
        | (exfalso; omega)
        | (go_wp2_with fail
           go_roundw
           case rel => exact ⟨2, by omega, by go_num, by first | rfl | trivial⟩
           case measure => simp [intOf])
        | (go_wp2_with fail
           go_ret
           exact ⟨rfl, HK2.out⟩)
      · first
        | (exfalso; omega)
        | (go_wp2_with fail
           go_roundw
           case rel => exact ⟨3, by omega, by go_num, by first | rfl | trivial⟩
           case measure => simp [intOf])
        | (go_wp2_with fail
           go_ret
           exact ⟨rfl, HK2.out⟩)
      · first
        | (exfalso; omega)
        | (go_wp2_with fail
           go_roundw
           case rel => exact ⟨4, by omega, by go_num, by first | rfl | trivial⟩
           case measure => simp [intOf])
        | (go_wp2_with fail
           go_ret
           exact ⟨rfl, HK2.out⟩)
      · first
        | (exfalso; omega)
        | (go_wp2_with fail
           go_ret
           exact ⟨rfl, HK2.out⟩)
end Go.Proofs.YtjbaijgdkkccbaaGreatDoor

/- kit.Small. -/
namespace Go.Proofs.YtjbaijgdkkccbaaGreatDoor
open Go.RowKit

theorem numOk_iff (s : ByteArray) : numOk s = true ↔ (digitsOf s ≠ [] ∧ (digitsOf s).length ≤ 9) ∧ ¬ ((digitsOf s).head? = some 48 ∧ s.data.toList ≠ [48]) ∧ (digitsOf s).all isDg = true := by
  simp only [numOk, Bool.and_eq_true, decide_eq_true_eq, Bool.not_eq_true', Bool.and_eq_false_iff, decide_eq_false_iff_not]
  constructor
  · rintro ⟨⟨⟨h1, h2⟩, h3⟩, h4⟩; exact ⟨⟨h1, h2⟩, fun e => h3.elim (fun h => h e.1) (fun h => h e.2), h4⟩
  · rintro ⟨⟨h1, h2⟩, h3, h4⟩; exact ⟨⟨⟨h1, h2⟩, if h : (digitsOf s).head? = some 48 then Or.inr (fun e => h3 ⟨h, e⟩) else Or.inl h⟩, h4⟩
def digB (s : ByteArray) : ByteArray := ⟨(Lib.trimPrefix s.data.toList (⟨#[45]⟩ : ByteArray).data.toList).toArray⟩
theorem digB_data (s : ByteArray) : (digB s).data.toList = digitsOf s := by
  show (Lib.trimPrefix s.data.toList [45]).toArray.toList = _
  rw [List.toList_toArray]; rfl
theorem byte_at (d : ByteArray) {k : Nat} (h : k < d.size) : d.data.toList[k]? = some d[k] := by
  rw [Array.getElem?_toList]
  exact Array.getElem?_eq_getElem h
theorem digs_all {s : ByteArray} (h : ∀ (k : Nat) (hk : k < (digB s).size), 48 ≤ (digB s)[k].toNat ∧ (digB s)[k].toNat ≤ 57) : (digitsOf s).all isDg = true := by
  rw [List.all_eq_true]
  intro b hb
  obtain ⟨k, hk⟩ := List.mem_iff_getElem?.1 hb
  have hl := (List.getElem?_eq_some_iff.1 hk).1
  have hl2 : k < (digB s).size := by rw [size_list, digB_data]; exact hl
  have h2 := byte_at (digB s) hl2
  rw [digB_data, hk] at h2
  have h3 := h k hl2
  rw [Option.some.inj h2]
  simp [isDg, h3.1, h3.2]
theorem digs_not {s : ByteArray} {k : Nat} (hk : k < (digB s).size) (h : ¬ (48 ≤ (digB s)[k].toNat ∧ (digB s)[k].toNat ≤ 57)) : ¬ (digitsOf s).all isDg = true := by
  intro ha
  have h2 := byte_at (digB s) hk
  rw [digB_data] at h2
  have h3 := List.all_eq_true.1 ha _ (List.mem_of_getElem? h2)
  simp [isDg] at h3
  exact h h3
theorem digs_head {s : ByteArray} (h : 0 < (digB s).size) : (digitsOf s).head? = some 48 ↔ (digB s)[0].toNat = 48 := by
  have h2 := byte_at (digB s) h
  rw [digB_data] at h2
  rw [List.head?_eq_getElem?, h2]
  constructor
  · intro e; rw [Option.some.inj e]; rfl
  · intro e; rw [← UInt8.toNat_inj.1 (show (digB s)[0].toNat = (48 : UInt8).toNat from e)]
def NumPost (s : ByteArray) (w : World) (e : Ending) (w' : World) : Prop := ∃ (v : Int) (ok : Bool), e = .returned (.tuple #[.int .i64 v, .bool ok]) ∧ All w w' ∧ numF s = (if ok = true then some v else none)
theorem NumPost.no {s : ByteArray} {w w' : World} (h : ¬ numOk s = true) (hk : All w w') : NumPost s w (.returned (.tuple #[.int .i64 0, .bool false])) w' :=
  ⟨0, false, rfl, hk, by rw [numF, if_neg h]; rfl⟩
set_option maxHeartbeats 3200000 in
theorem number_any (s : ByteArray) (w : World) : Calls Tryz.prog 254 #[.string s, .int .i64 9] w (NumPost s w) := by
  have HT := Lib.hid (show Calls Tryz.prog 190 #[.string s, .string ⟨#[45]⟩] w fun e w' => e = .returned (.string (digB s)) ∧ w' = w from Tryz.strings_TrimPrefix s ⟨#[45]⟩ w)
  have hiff := numOk_iff s
  have hdl : (digB s).size = (digitsOf s).length := by rw [size_list, digB_data]
  have hsl : (s.toList == [48]) = decide (s.data.toList = [48]) := by
    rw [Go.ByteArray.toList_eq]
    by_cases h : s.data.toList = [48]
    · rw [h]; rfl
    · rw [decide_eq_false h, beq_eq_false_iff_ne]; exact h
  have D1 := Lib.hid (@digs_all s)
  have D2 := Lib.hid (fun k => @digs_not s k)
  have D3 := Lib.hid (@digs_head s)
  have D4 := Lib.hid (@atoi_digits s)
  obtain ⟨d, hd⟩ : ∃ d, d = digB s := ⟨_, rfl⟩
  rw [← hd] at HT hdl D1 D2 D3
  clear hd
  by_cases h0 : d.size = 0
  · have HF := Lib.hid (NumPost.no (s := s) (w := w) (fun e => (hiff.1 e).1.1 (List.eq_nil_of_length_eq_zero (by omega))) (Kept.refl _ w))
    have hnil : (d.toList == []) = true := by rw [toList_nil h0]; rfl
    clear hiff hdl hsl D1 D2 D3 D4
    go_enter Tryz.func254, Tryz.ntmps254
    go_wp2_with fail
    refine HT.out.mono ?_
    rintro e w2 ⟨rfl, rfl⟩
    go_wp2_with fail
    go_ret2
    exact HF.out
  have hnil : (d.toList == []) = false := by rw [beq_eq_false_iff_ne]; exact toList_ne h0
  by_cases h9 : 9 < d.size
  · have HF := Lib.hid (NumPost.no (s := s) (w := w) (fun e => by have := (hiff.1 e).1.2; omega) (Kept.refl _ w))
    have h9d : decide ((9 : Int) < (d.size : Int)) = true := by simp; omega
    clear hiff hdl hsl D1 D2 D3 D4
    go_enter Tryz.func254, Tryz.ntmps254
    go_wp2_with fail
    refine HT.out.mono ?_
    rintro e w2 ⟨rfl, rfl⟩
    go_wp2_with fail
    go_ret2
    exact HF.out
  have h9d : decide ((9 : Int) < (d.size : Int)) = false := by simp; omega
  have hp : 0 < d.size := by omega
  by_cases h48 : d[0].toNat = 48 ∧ s.data.toList ≠ [48]
  · have HF := Lib.hid (NumPost.no (s := s) (w := w) (fun e => (hiff.1 e).2.1 ⟨(D3.out hp).2 h48.1, h48.2⟩) (Kept.refl _ w))
    have c1 : (((d[0].toNat : Nat) : Int) == 48) = true := by rw [h48.1]; rfl
    have c2 : (s.toList == [48]) = false := by rw [hsl]; simpa using h48.2
    clear hiff hdl hsl D1 D2 D3 D4 h48
    go_enter Tryz.func254, Tryz.ntmps254
    go_wp2_with fail
    refine HT.out.mono ?_
    rintro e w2 ⟨rfl, rfl⟩
    go_wp2_with fail
    go_ret2
    exact HF.out
  have hgood : ∀ (_ : ∀ (k : Nat) (hk : k < d.size), 48 ≤ d[k].toNat ∧ d[k].toNat ≤ 57), numOk s = true := fun h => hiff.2 ⟨⟨fun e => by rw [e] at hdl; exact h0 hdl, by omega⟩, fun e => h48 ⟨(D3.out hp).1 e.1, e.2⟩, D1.out h⟩
  have hat : ∀ (_ : ∀ (k : Nat) (hk : k < d.size), 48 ≤ d[k].toNat ∧ d[k].toNat ≤ 57), ∃ n, Lib.atoi s.data.toList = some n ∧ s.size ≤ 10 := fun h => by
    obtain ⟨n, h1, -, -, h4, -⟩ := D4.out (fun e => by rw [e] at hdl; exact h0 hdl) (by omega) (D1.out h)
    exact ⟨n, h1, h4⟩
  have HG := Lib.hid hgood
  have HA := Lib.hid hat
  have HNO := Lib.hid (fun (k : Nat) (hk : k < d.size) (h : ¬ (48 ≤ d[k].toNat ∧ d[k].toNat ≤ 57)) => NumPost.no (s := s) (w := w) (fun e => D2.out k hk h (hiff.1 e).2.2) (Kept.refl _ w))
  clear hgood hat hiff D1 D2 D3 D4 hdl
  by_cases h1 : d[0].toNat = 48
  · have c1 : (((d[0].toNat : Nat) : Int) == 48) = true := by rw [h1]; rfl
    have c2 : (s.toList == [48]) = true := by rw [hsl]; simpa using (fun e => h48 ⟨h1, e⟩ : ¬ ¬ s.data.toList = [48])
    clear h48 h1 hsl
    go_enter Tryz.func254, Tryz.ntmps254
    go_wp2_with fail
    refine HT.out.mono ?_
    rintro e w2 ⟨rfl, rfl⟩
    go_wp2_with fail
    go_loopw [7] (fun i wr => ∃ k : Nat, k ≤ d.size ∧ i = .int .i64 k ∧ (∀ (j : Nat) (hj : j < d.size), j < k → 48 ≤ d[j].toNat ∧ d[j].toNat ≤ 57) ∧ wr = w2) (fun i _ => d.size - (intOf i).toNat)
    case atStart => exact ⟨0, Nat.zero_le _, rfl, fun j _ h => absurd h (by omega), rfl⟩
    case round =>
      obtain ⟨k, hk, rfl, hdg, rfl⟩ := hrel
      by_cases hlt : k < d.size
      · by_cases hb1 : d[k].toNat < 48
        · have HF := Lib.hid (HNO.out k hlt (by omega))
          have e1 : decide (((d[k].toNat : Nat) : Int) < 48) = true := by simp; omega
          clear hdg HNO HA HG
          go_wp2_with fail
          go_ret2
          exact HF.out
        · have e1 : decide (((d[k].toNat : Nat) : Int) < 48) = false := by simp; omega
          by_cases hb2 : 57 < d[k].toNat
          · have HF := Lib.hid (HNO.out k hlt (by omega))
            have e2 : decide ((57 : Int) < ((d[k].toNat : Nat) : Int)) = true := by simp; omega
            clear hdg HNO HA HG
            go_wp2_with fail
            go_ret2
            exact HF.out
          · have e2 : decide ((57 : Int) < ((d[k].toNat : Nat) : Int)) = false := by simp; omega
            have HD := Lib.hid (fun (j : Nat) (hj : j < d.size) (h : j < k + 1) => (if e : j = k then (by subst e; omega) else hdg j hj (by omega) : 48 ≤ d[j].toNat ∧ d[j].toNat ≤ 57))
            clear hdg HNO HA HG
            go_wp2_with fail
            go_roundw
            case rel => exact ⟨k + 1, by omega, by go_num, HD.out, by first | rfl | trivial⟩
            case measure => simp [intOf]; omega
      · have hall : ∀ (j : Nat) (hj : j < d.size), 48 ≤ d[j].toNat ∧ d[j].toNat ≤ 57 := fun j hj => hdg j hj (by omega)
        have hok := HG.out hall
        obtain ⟨n, hn, hsz⟩ := HA.out hall
        have HAT := Lib.hid (fun (wx : World) => Tryz.strconv_Atoi s n (by omega) hn wx)
        have hnf : numF s = some n := by rw [numF, if_pos hok]; exact hn
        have HNF := Lib.hid hnf
        clear hall hok hn hsz hnf hdg HNO HA HG
        go_wp2_with fail
        refine (HAT.out _).mono ?_
        rintro e w3 ⟨rfl, t, rfl⟩
        go_wp2_with fail
        go_quiet (fail)
        go_wp2_with fail
        go_ret2
        exact ⟨n, true, rfl, (All.bytesWorld _ _ _).then_drewN _, HNF.out⟩
  · have c1 : (((d[0].toNat : Nat) : Int) == 48) = false := by rw [beq_eq_false_iff_ne]; omega
    clear h48 h1 hsl
    go_enter Tryz.func254, Tryz.ntmps254
    go_wp2_with fail
    refine HT.out.mono ?_
    rintro e w2 ⟨rfl, rfl⟩
    go_wp2_with fail
    go_loopw [7] (fun i wr => ∃ k : Nat, k ≤ d.size ∧ i = .int .i64 k ∧ (∀ (j : Nat) (hj : j < d.size), j < k → 48 ≤ d[j].toNat ∧ d[j].toNat ≤ 57) ∧ wr = w2) (fun i _ => d.size - (intOf i).toNat)
    case atStart => exact ⟨0, Nat.zero_le _, rfl, fun j _ h => absurd h (by omega), rfl⟩
    case round =>
      obtain ⟨k, hk, rfl, hdg, rfl⟩ := hrel
      by_cases hlt : k < d.size
      · by_cases hb1 : d[k].toNat < 48
        · have HF := Lib.hid (HNO.out k hlt (by omega))
          have e1 : decide (((d[k].toNat : Nat) : Int) < 48) = true := by simp; omega
          clear hdg HNO HA HG
          go_wp2_with fail
          go_ret2
          exact HF.out
        · have e1 : decide (((d[k].toNat : Nat) : Int) < 48) = false := by simp; omega
          by_cases hb2 : 57 < d[k].toNat
          · have HF := Lib.hid (HNO.out k hlt (by omega))
            have e2 : decide ((57 : Int) < ((d[k].toNat : Nat) : Int)) = true := by simp; omega
            clear hdg HNO HA HG
            go_wp2_with fail
            go_ret2
            exact HF.out
          · have e2 : decide ((57 : Int) < ((d[k].toNat : Nat) : Int)) = false := by simp; omega
            have HD := Lib.hid (fun (j : Nat) (hj : j < d.size) (h : j < k + 1) => (if e : j = k then (by subst e; omega) else hdg j hj (by omega) : 48 ≤ d[j].toNat ∧ d[j].toNat ≤ 57))
            clear hdg HNO HA HG
            go_wp2_with fail
            go_roundw
            case rel => exact ⟨k + 1, by omega, by go_num, HD.out, by first | rfl | trivial⟩
            case measure => simp [intOf]; omega
      · have hall : ∀ (j : Nat) (hj : j < d.size), 48 ≤ d[j].toNat ∧ d[j].toNat ≤ 57 := fun j hj => hdg j hj (by omega)
        have hok := HG.out hall
        obtain ⟨n, hn, hsz⟩ := HA.out hall
        have HAT := Lib.hid (fun (wx : World) => Tryz.strconv_Atoi s n (by omega) hn wx)
        have hnf : numF s = some n := by rw [numF, if_pos hok]; exact hn
        have HNF := Lib.hid hnf
        clear hall hok hn hsz hnf hdg HNO HA HG
        go_wp2_with fail
        refine (HAT.out _).mono ?_
        rintro e w3 ⟨rfl, t, rfl⟩
        go_wp2_with fail
        go_quiet (fail)
        go_wp2_with fail
        go_ret2
        exact ⟨n, true, rfl, (All.bytesWorld _ _ _).then_drewN _, HNF.out⟩
theorem small_any (s : ByteArray) (w : World) : Calls Tryz.prog 187 #[.string s] w (NumPost s w) := by
  have HN := Lib.hid (number_any s w)
  go_enter Tryz.func187, Tryz.ntmps187
  go_wp2_with fail
  refine HN.out.mono ?_
  rintro e w2 ⟨v, ok, rfl, hk2, hq⟩
  have hf := Lib.hid hq
  clear hq
  go_wp2_with fail
  go_ret2
  exact ⟨v, ok, rfl, hk2, hf.out⟩
end Go.Proofs.YtjbaijgdkkccbaaGreatDoor

/- readQuestion. -/
namespace Go.Proofs.YtjbaijgdkkccbaaGreatDoor
open Go.RowKit

def QPost (s : ByteArray) (w : World) (e : Ending) (w' : World) : Prop := ∃ (q : Qst) (oa : Option Addr) (oc : Nat) (ok : Bool), e = .returned (.tuple #[.agg #[.string q.key, .int .i64 q.kind, .int .i64 q.most, .slice oa q.opts.length oc, .bool q.needed, .bool q.secret], .bool ok]) ∧ q.opts.length ≤ oc ∧ QstSmall q ∧ Sl RStr 1 (fun k => w.heap.size ≤ k) w' oa q.opts.length q.opts ∧ All w w' ∧ readQ s = (if ok = true then some q else none)
theorem QPost.fin {s : ByteArray} {w wz : World} {rb : Nat} {key : ByteArray} {kind most : Int} {opts : List ByteArray} {oa : Option Addr} {oc : Nat} {nd sc ok : Bool} (hall : All w wz) (hrb : w.heap.size ≤ rb) (hoc : opts.length ≤ oc) (hkey : key.size ≤ 1000000) (hop : opts.length ≤ 1000)
    (hsl : Sl RStr 1 (fun k => w.heap.size ≤ k ∧ k ≠ rb) wz oa opts.length opts) (hq : readQ s = (if ok = true then some ⟨key, kind, most, opts, nd, sc⟩ else none)) :
    QPost s w (.returned (.tuple #[.agg #[.string key, .int .i64 kind, .int .i64 most, .slice oa opts.length oc, .bool nd, .bool sc], .bool ok])) ((((((wz.setCell ⟨rb, 0, none⟩ (.string key)).setCell ⟨rb, 1, none⟩ (.int .i64 kind)).setCell ⟨rb, 2, none⟩ (.int .i64 most)).setCell ⟨rb, 3, none⟩ (.slice oa opts.length oc)).setCell ⟨rb, 4, none⟩ (.bool nd)).setCell ⟨rb, 5, none⟩ (.bool sc)) := by
  have kk : Kept (fun k => k ≠ rb) wz ((((((wz.setCell ⟨rb, 0, none⟩ (.string key)).setCell ⟨rb, 1, none⟩ (.int .i64 kind)).setCell ⟨rb, 2, none⟩ (.int .i64 most)).setCell ⟨rb, 3, none⟩ (.slice oa opts.length oc)).setCell ⟨rb, 4, none⟩ (.bool nd)).setCell ⟨rb, 5, none⟩ (.bool sc)) := ((((((Kept.refl _ wz).then_setCell ⟨rb, 0, none⟩ _ (by simp)).then_setCell ⟨rb, 1, none⟩ _ (by simp)).then_setCell ⟨rb, 2, none⟩ _ (by simp)).then_setCell ⟨rb, 3, none⟩ _ (by simp)).then_setCell ⟨rb, 4, none⟩ _ (by simp)).then_setCell ⟨rb, 5, none⟩ _ (by simp)
  refine ⟨⟨key, kind, most, opts, nd, sc⟩, oa, oc, ok, rfl, hoc, ⟨hkey, hop⟩, (hsl.keep RStr.ok (kk.mono (fun k h => h.2))).mono RStr.ok (fun k h => h.1), ?_, hq⟩
  exact hall.trans2 kk (fun i hi _ => by omega)
/-- What take does: the flag, and the words behind it. -/
def TakePost (p : ByteArray) (ws : List ByteArray) (kp b d m : Nat) (w : World) (e : Ending) (w' : World) : Prop :=
  e = .returned (.bool (flagAt p (ws.drop d))) ∧ (∃ d2, w'.heap[kp]? = some (.cells #[(.slice (some ⟨b, d2, none⟩) (m - (if flagAt p (ws.drop d) then 1 else 0)) (m - (if flagAt p (ws.drop d) then 1 else 0)))] 29 (0, 0)) ∧ (0 < m - (if flagAt p (ws.drop d) then 1 else 0) → d2 = d + (if flagAt p (ws.drop d) then 1 else 0))) ∧ Kept (fun k => k ≠ kp) w w'
theorem takeQ_any (p : ByteArray) (ws : List ByteArray) (kp b d' d m : Nat) (w : World) (hk : w.heap[kp]? = some (.cells #[(.slice (some ⟨b, d', none⟩) m m)] 29 (0, 0))) (hd : 0 < m → d' = d) (hb : w.heap[b]? = some (.cells (ws.map Value.string).toArray 9 (0, 0))) (hm : ws.length = d + m) :
    Calls Tryz.prog 185 #[.string p, .pointer (some ⟨kp, 0, none⟩)] w (TakePost p ws kp b d m w) := by
  have k0 := cell_at (i := 0) hk rfl
  rcases Nat.eq_zero_or_pos m with h0 | h0
  · subst h0
    have hf : flagAt p (ws.drop d) = false := by rw [List.drop_of_length_le (by omega)]; rfl
    refine (take_none p kp _ 0 w k0).mono ?_
    rintro e w' ⟨rfl, rfl⟩
    unfold TakePost
    rw [hf]
    exact ⟨rfl, ⟨d', hk, fun h => absurd h (by omega)⟩, Kept.refl _ _⟩
  · obtain rfl := hd h0
    obtain ⟨x, hx⟩ : ∃ x, ws[d']? = some x := ⟨_, List.getElem?_eq_getElem (show d' < ws.length by omega)⟩
    have hdr : (ws.drop d').head? = some x := by rw [List.head?_drop]; exact hx
    have c0 : w.cell? ⟨b, d', none⟩ = some (.string x) := cell_at hb (by simp [hx])
    by_cases hp : x = p
    · have hf : flagAt p (ws.drop d') = true := by rw [flagAt, hdr, hp]; simp
      subst hp
      refine (take_yes x kp b d' m m w k0 (frozen_at hk) h0 (Nat.le_refl _) c0).mono ?_
      rintro e w' ⟨rfl, rfl⟩
      unfold TakePost
      rw [hf]
      refine ⟨rfl, ⟨_, heap_setCell_at _ kp 0 _ _ _ _ hk, fun h => ?_⟩, Kept.setCell _ _ _ (by simp)⟩
      rw [if_neg (by simp only [if_pos] at h; omega)]; rfl
    · have hf : flagAt p (ws.drop d') = false := by rw [flagAt, hdr, decide_eq_false_iff_not]; exact fun e => hp (Option.some.inj e)
      refine (take_no p x kp b d' m m w k0 h0 c0 hp).mono ?_
      rintro e w' ⟨rfl, rfl⟩
      unfold TakePost
      rw [hf]
      exact ⟨rfl, ⟨d', hk, fun _ => rfl⟩, Kept.refl _ _⟩
/-- The four blocks of a reading. -/
def QS (w : World) (rb : Nat) (ws : List ByteArray) (d m : Nat) (C : Array Value) (wx : World) : Prop :=
  wx.heap[rb]? = some (.cells #[.string ⟨#[]⟩, .int .i64 0, .int .i64 0, .slice none 0 0, .bool false, .bool false] 146 (0, 0)) ∧ wx.heap[rb + 1]? = some (.cells (ws.map Value.string).toArray 9 (0, 0)) ∧ (∃ d2, wx.heap[rb + 2]? = some (.cells #[(.slice (some ⟨rb + 1, d2, none⟩) m m)] 29 (0, 0)) ∧ (0 < m → d2 = d)) ∧ wx.heap[rb + 3]? = some (.cells C 146 (0, 0)) ∧ All w wx
theorem setCell_kept {rb : Nat} (wz : World) (j : Nat) (u : Value) : Kept (fun k => k ≠ rb) wz (wz.setCell ⟨rb, j, none⟩ u) := Kept.setCell _ _ _ (by simp)
/-- A cell of the question changes. -/
theorem QS.put {w wx : World} {rb : Nat} {ws : List ByteArray} {d m : Nat} {C : Array Value} (h : QS w rb ws d m C wx) (hrb : w.heap.size ≤ rb) (j : Nat) (u : Value) : QS w rb ws d m (C.setIfInBounds j u) (wx.setCell ⟨rb + 3, j, none⟩ u) := by
  obtain ⟨h1, h2, ⟨d2, h3, h4⟩, h5, h6⟩ := h
  have kk := setCell_kept (rb := rb + 3) wx j u
  exact ⟨kk.heap h1 (by omega), kk.heap h2 (by omega), ⟨d2, kk.heap h3 (by omega), h4⟩, heap_setCell_at _ _ _ _ _ _ _ h5, h6.then_setNew _ _ (by dsimp only; omega)⟩
theorem QS.step {w wx wy : World} {rb : Nat} {ws : List ByteArray} {d m : Nat} {C : Array Value} (h : QS w rb ws d m C wx) (k : All wx wy) : QS w rb ws d m C wy := by
  obtain ⟨h1, h2, ⟨d2, h3, h4⟩, h5, h6⟩ := h
  exact ⟨k.heap h1 trivial, k.heap h2 trivial, ⟨d2, k.heap h3 trivial, h4⟩, k.heap h5 trivial, h6.trans k⟩
theorem QS.take {w wx wy : World} {rb : Nat} {ws : List ByteArray} {d m : Nat} {C : Array Value} {p : ByteArray} {e : Ending} (h : QS w rb ws d m C wx) (hrb : w.heap.size ≤ rb) (k : TakePost p ws (rb + 2) (rb + 1) d m wx e wy) :
    QS w rb ws (d + (if flagAt p (ws.drop d) then 1 else 0)) (m - (if flagAt p (ws.drop d) then 1 else 0)) C wy := by
  obtain ⟨h1, h2, -, h5, h6⟩ := h
  obtain ⟨-, h3, k⟩ := k
  exact ⟨k.heap h1 (by omega), k.heap h2 (by omega), h3, k.heap h5 (by omega), h6.trans2 k (fun i hi _ => by omega)⟩
theorem takeQ_qs {w wx : World} {rb : Nat} {ws : List ByteArray} {d m : Nat} {C : Array Value} (p : ByteArray) (h : QS w rb ws d m C wx) (hm : ws.length = d + m) :
    Calls Tryz.prog 185 #[.string p, .pointer (some ⟨rb + 2, 0, none⟩)] wx (TakePost p ws (rb + 2) (rb + 1) d m wx) := by
  obtain ⟨h1, h2, ⟨d2, h3, h4⟩, h5, h6⟩ := h
  exact takeQ_any p ws (rb + 2) (rb + 1) d2 d m wx h3 h4 h2 hm
theorem flag_le {p : ByteArray} {ws : List ByteArray} {d m : Nat} (hm : ws.length = d + m) : (if flagAt p (ws.drop d) then 1 else 0) ≤ m := by
  split
  · rename_i h
    rcases Nat.eq_zero_or_pos m with h0 | h0
    · rw [List.drop_of_length_le (by omega)] at h; exact (nomatch h)
    · exact h0
  · omega

theorem bodyW_short {n s : Bool} {l : List ByteArray} (h : l.length < 2) : bodyW n s l = none := by
  match l with
  | [] => rfl
  | [x] => rfl
  | x :: y :: r => simp at h; omega
set_option maxRecDepth 100000 in
set_option maxHeartbeats 12800000 in
theorem readQuestion_any (s : ByteArray) (w : World) (hs : s.size ≤ 900) (hg : Glob w) : Calls Tryz.prog 118 #[.string s] w (QPost s w) := by
  obtain ⟨rb, hrb⟩ : ∃ z, z = w.heap.size := ⟨_, rfl⟩
  obtain ⟨ws, hws⟩ : ∃ z, z = rowsB spB s := ⟨_, rfl⟩
  obtain ⟨n, hn⟩ : ∃ z, z = ws.length := ⟨_, rfl⟩
  have HW := Lib.hid (words_any s n (w.alloc (.cells #[.string ⟨#[]⟩, .int .i64 0, .int .i64 0, .slice none 0 0, .bool false, .bool false] 146)) (by omega) (by rw [hn, hws]) (hg.keep (Kept.alloc _ _ _)))
  have hnl := rowsB_le spB s (by decide)
  have hsz := rowsB_size spB s
  have hrq : readQ s = readW ws := by rw [readQ, hws]
  rw [← hws] at HW hnl hsz
  rw [← hn] at hnl
  have HSZ := Lib.hid hsz
  obtain ⟨bt, hbt⟩ : ∃ z, z = memB emptB ws := ⟨_, rfl⟩
  rw [← hbt] at HW
  have HBT := Lib.hid hbt
  clear hbt
  obtain ⟨ob, hob⟩ : ∃ o : Obj, o = .cells (ws.map Value.string).toArray 9 := ⟨_, rfl⟩
  rw [← hob] at HW
  have hR : QS w rb ws 0 n #[.string ⟨#[]⟩, .int .i64 0, .int .i64 0, .slice none 0 0, .bool false, .bool false] ((((w.alloc (.cells #[.string ⟨#[]⟩, .int .i64 0, .int .i64 0, .slice none 0 0, .bool false, .bool false] 146)).alloc ob).alloc (.cells #[(.slice (some ⟨rb + 1, 0, none⟩) n n)] 29)).alloc (.cells #[.string ⟨#[]⟩, .int .i64 0, .int .i64 0, .slice none 0 0, .bool false, .bool false] 146)) := by
    refine ⟨?_, ?_, ⟨0, ?_, fun _ => rfl⟩, ?_, ((((Kept.alloc _ _ _).then_alloc _).then_alloc _).then_alloc _)⟩
    · exact heap_old _ (heap_old _ (heap_old _ (heap_at w _ _ hrb)))
    · rw [← hob]; exact heap_old _ (heap_old _ (heap_at _ _ _ (by simp [hrb])))
    · exact heap_old _ (heap_at _ _ _ (by simp [hrb]))
    · exact heap_at _ _ _ (by simp [hrb])
  have HRB := Lib.hid hrb
  have hrl : w.heap.size ≤ rb := by omega
  have HRL := Lib.hid hrl
  have hn0 : ws.length = 0 + n := by omega
  have eg : ∀ args w, (callFunc 185 args).run Tryz.prog w = .ok (.enter 185 args) w := enters_of Tryz.func185 (by kernel_rfl) rfl
  have hmf' := hmfC
  clear hws hob hg hrb hsz hn hrl
  go_enter Tryz.func118, Tryz.ntmps118
  go_wp2_with fail
  refine HW.out.mono ?_
  rintro e w2 ⟨rfl, rfl⟩
  simp only [← HRB.out]
  go_upto_region 4 with fail
  simp only [World.size_alloc, ← HRB.out, Nat.add_assoc, Nat.reduceAdd]
  generalize ((((w.alloc (.cells #[.string ⟨#[]⟩, .int .i64 0, .int .i64 0, .slice none 0 0, .bool false, .bool false] 146)).alloc ob).alloc (.cells #[(.slice (some ⟨rb + 1, 0, none⟩) n n)] 29)).alloc (.cells #[.string ⟨#[]⟩, .int .i64 0, .int .i64 0, .slice none 0 0, .bool false, .bool false] 146)) = w4 at *
  have T1 := Lib.hid (takeQ_qs needB hR hn0)
  go_wp2_with fail
  refine T1.out.mono ?_
  rintro e w5 hp5
  have hq5 := hR.take HRL.out hp5
  have hle1 := flag_le (p := needB) hn0
  obtain ⟨rfl, -, -⟩ := hp5
  obtain ⟨f1, hf1⟩ : ∃ z, z = flagAt needB (ws.drop 0) := ⟨_, rfl⟩
  rw [← hf1] at hq5 hle1 ⊢
  obtain ⟨d1, hd1⟩ : ∃ z, z = 0 + (if f1 = true then 1 else 0) := ⟨_, rfl⟩
  obtain ⟨m1, hm1⟩ : ∃ z, z = n - (if f1 = true then 1 else 0) := ⟨_, rfl⟩
  rw [← hd1, ← hm1] at hq5
  have hn1 : ws.length = d1 + m1 := by omega
  have hq5' := hq5.put HRL.out 4 (.bool f1)
  simp only [List.setIfInBounds_toArray, List.set_cons_zero, List.set_cons_succ] at hq5'
  have T2 := Lib.hid (takeQ_qs secrB hq5' hn1)
  have HF1 := Lib.hid hf1
  have HD1 := Lib.hid hd1
  obtain ⟨-, -, -, hqb, -⟩ := hq5
  have q4 := cell_at (i := 4) hqb rfl
  have z4 := frozen_at (i := 4) hqb
  clear hqb hf1 hle1 hR T1 HW hm1 hd1
  go_wp2_with fail
  refine T2.out.mono ?_
  rintro e w6 hp6
  have hq6 := hq5'.take HRL.out hp6
  have hle2 := flag_le (p := secrB) hn1
  obtain ⟨rfl, -, -⟩ := hp6
  obtain ⟨f2, hf2⟩ : ∃ z, z = flagAt secrB (ws.drop d1) := ⟨_, rfl⟩
  rw [← hf2] at hq6 hle2 ⊢
  obtain ⟨d, hd2⟩ : ∃ z, z = d1 + (if f2 = true then 1 else 0) := ⟨_, rfl⟩
  obtain ⟨m, hm2⟩ : ∃ z, z = m1 - (if f2 = true then 1 else 0) := ⟨_, rfl⟩
  rw [← hd2, ← hm2] at hq6
  have hnm : ws.length = d + m := by omega
  have hq7 := hq6.put HRL.out 5 (.bool f2)
  simp only [List.setIfInBounds_toArray, List.set_cons_zero, List.set_cons_succ] at hq7
  have hbody : readQ s = if bt = true then none else bodyW f1 f2 (ws.drop d) := by
    have e0 : ws.drop 0 = ws := rfl
    have e1 : dropF needB ws = ws.drop d1 := by rw [dropF_drop, HD1.out, HF1.out, e0, Nat.zero_add]
    have e2 : dropF secrB (ws.drop d1) = ws.drop d := by rw [dropF_drop, ← hf2, List.drop_drop, hd2]
    rw [hrq, readW, e1, e2, ← HBT.out, ← hf2, HF1.out, e0]
  obtain ⟨-, -, -, hqb, -⟩ := hq6
  have q5 := cell_at (i := 5) hqb rfl
  have z5 := frozen_at (i := 5) hqb
  clear hqb hf2 hle2 T2 hm2 hd2 hq5' q4 z4 HF1 HD1
  go_upto_region 6 with fail
  generalize w6.setCell ⟨rb + 3, 5, none⟩ (.bool f2) = w7 at *
  clear q5 z5
  cases bt with
  | true =>
    rw [if_pos rfl] at hbody
    have hqs := hq7
    obtain ⟨hrz, hbz, ⟨dz, hkz, hdz⟩, hqz, hallz⟩ := hqs
    have k0 := cell_at (i := 0) hkz rfl
    clear hq7 hkz hbz eg hmf'
    have s0 := cell_at (i := 0) hqz rfl
    have s1 := cell_at (i := 1) hqz rfl
    have s2 := cell_at (i := 2) hqz rfl
    have s3 := cell_at (i := 3) hqz rfl
    have s4 := cell_at (i := 4) hqz rfl
    have s5 := cell_at (i := 5) hqz rfl
    have t0 := cell_at (i := 0) hrz rfl
    have t1 := cell_at (i := 1) hrz rfl
    have t2 := cell_at (i := 2) hrz rfl
    have t3 := cell_at (i := 3) hrz rfl
    have t4 := cell_at (i := 4) hrz rfl
    have t5 := cell_at (i := 5) hrz rfl
    have u0 := frozen_at (i := 0) hrz
    have u1 := frozen_at (i := 1) hrz
    have u2 := frozen_at (i := 2) hrz
    have u3 := frozen_at (i := 3) hrz
    have u4 := frozen_at (i := 4) hrz
    have u5 := frozen_at (i := 5) hrz
    have hr9 := (heap_setCell_at _ rb 5 (.bool f2) _ _ _ (heap_setCell_at _ rb 4 (.bool f1) _ _ _ (heap_setCell_at _ rb 3 (.slice none 0 0) _ _ _ (heap_setCell_at _ rb 2 (.int .i64 0) _ _ _ (heap_setCell_at _ rb 1 (.int .i64 0) _ _ _ (heap_setCell_at _ rb 0 (.string ⟨#[]⟩) _ _ _ hrz))))))
    simp only [List.setIfInBounds_toArray, List.set_cons_zero, List.set_cons_succ] at hr9
    have v0 := cell_at (i := 0) hr9 rfl
    have v1 := cell_at (i := 1) hr9 rfl
    have v2 := cell_at (i := 2) hr9 rfl
    have v3 := cell_at (i := 3) hr9 rfl
    have v4 := cell_at (i := 4) hr9 rfl
    have v5 := cell_at (i := 5) hr9 rfl
    have hfin := Lib.hid (QPost.fin (key := ⟨#[]⟩) (kind := 0) (most := 0) (oa := none) (oc := 0) (opts := []) (nd := f1) (sc := f2) (ok := false) hallz HRL.out (Nat.le_refl _) (by decide) (by decide) (Sl.nil _ _ _ _ _) hbody)
    clear hqz hrz hr9
    go_wp2_with fail
    refine bodyPost_ret (v := .tuple #[.agg #[.string ⟨#[]⟩, .int .i64 0, .int .i64 0, .slice none 0 0, .bool f1, .bool f2], .bool false]) ?_ rfl hfin.out
    simp [results, Tryz.results118, go_sem, v0, v1, v2, v3, v4, v5]
  | false =>
    rw [if_neg (by decide)] at hbody
    by_cases hm2 : m < 2
    · have hb0 : readQ s = none := by rw [hbody]; exact bodyW_short (by rw [List.length_drop]; omega)
      have hd3 : decide ((m : Int) < 2) = true := by simp; omega
      obtain ⟨hrz, hbz, ⟨dz, hkz, hdz⟩, hqz, hallz⟩ := hq7
      have k0 := cell_at (i := 0) hkz rfl
      clear hkz hbz eg hmf' hbody
      have s0 := cell_at (i := 0) hqz rfl
      have s1 := cell_at (i := 1) hqz rfl
      have s2 := cell_at (i := 2) hqz rfl
      have s3 := cell_at (i := 3) hqz rfl
      have s4 := cell_at (i := 4) hqz rfl
      have s5 := cell_at (i := 5) hqz rfl
      have t0 := cell_at (i := 0) hrz rfl
      have t1 := cell_at (i := 1) hrz rfl
      have t2 := cell_at (i := 2) hrz rfl
      have t3 := cell_at (i := 3) hrz rfl
      have t4 := cell_at (i := 4) hrz rfl
      have t5 := cell_at (i := 5) hrz rfl
      have u0 := frozen_at (i := 0) hrz
      have u1 := frozen_at (i := 1) hrz
      have u2 := frozen_at (i := 2) hrz
      have u3 := frozen_at (i := 3) hrz
      have u4 := frozen_at (i := 4) hrz
      have u5 := frozen_at (i := 5) hrz
      have hr9 := (heap_setCell_at _ rb 5 (.bool f2) _ _ _ (heap_setCell_at _ rb 4 (.bool f1) _ _ _ (heap_setCell_at _ rb 3 (.slice none 0 0) _ _ _ (heap_setCell_at _ rb 2 (.int .i64 0) _ _ _ (heap_setCell_at _ rb 1 (.int .i64 0) _ _ _ (heap_setCell_at _ rb 0 (.string ⟨#[]⟩) _ _ _ hrz))))))
      simp only [List.setIfInBounds_toArray, List.set_cons_zero, List.set_cons_succ] at hr9
      have v0 := cell_at (i := 0) hr9 rfl
      have v1 := cell_at (i := 1) hr9 rfl
      have v2 := cell_at (i := 2) hr9 rfl
      have v3 := cell_at (i := 3) hr9 rfl
      have v4 := cell_at (i := 4) hr9 rfl
      have v5 := cell_at (i := 5) hr9 rfl
      have hfin := Lib.hid (QPost.fin (key := ⟨#[]⟩) (kind := 0) (most := 0) (oa := none) (oc := 0) (opts := []) (nd := f1) (sc := f2) (ok := false) hallz HRL.out (Nat.le_refl _) (by decide) (by decide) (Sl.nil _ _ _ _ _) hb0)
      clear hqz hrz hr9
      go_wp2_with fail
      refine bodyPost_ret (v := .tuple #[.agg #[.string ⟨#[]⟩, .int .i64 0, .int .i64 0, .slice none 0 0, .bool f1, .bool f2], .bool false]) ?_ rfl hfin.out
      simp [results, Tryz.results118, go_sem, v0, v1, v2, v3, v4, v5]
    · obtain ⟨x0, key, r, hdr⟩ : ∃ x0 key r, ws.drop d = x0 :: key :: r := by
        match h : ws.drop d with
        | [] => have := congrArg List.length h; rw [List.length_drop] at this; simp at this; omega
        | [x] => have := congrArg List.length h; rw [List.length_drop] at this; simp at this; omega
        | x0 :: key :: r => exact ⟨x0, key, r, rfl⟩
      have hml : m = r.length + 2 := by
        have := congrArg List.length hdr; rw [List.length_drop] at this; simp at this; omega
      rw [hdr] at hbody
      have hx0 : ws[d]? = some x0 := by rw [← List.head?_drop, hdr]; rfl
      have hx1 : ws[d + 1]? = some key := by
        have := List.getElem?_drop (xs := ws) (i := d) (j := 1); rw [hdr] at this; exact this.symm
      have hks : key.size ≤ 900 := by have := HSZ.out key (List.mem_of_getElem? hx1); omega
      have hxs : x0.size ≤ 900 := by have := HSZ.out x0 (List.mem_of_getElem? hx0); omega
      have HR := Lib.hid (fun (j : Nat) (hj : j < r.length) => (show ws[d + 2 + j]? = some r[j] from by
        have := List.getElem?_drop (xs := ws) (i := d) (j := j + 2)
        rw [hdr] at this
        rw [show d + 2 + j = d + (j + 2) by omega, ← this]
        simp [List.getElem?_eq_getElem hj]))
      have hrn : r.length ≤ 900 := by omega
      have HML := Lib.hid hml
      have hi0 : (0 : Int) < (m : Int) := by omega
      have hi1 : (1 : Int) < (m : Int) := by omega
      have hi8 : 0 < m := by omega
      obtain ⟨kn, hkn⟩ : ∃ z, z = kindN x0 := ⟨_, rfl⟩
      have hk4 := kindN_in x0
      have hkq : ∀ wx, Calls Tryz.prog 186 #[.string x0] wx fun e w' => e = .returned (.int .i64 kn) ∧ All wx w' := fun wx => by rw [hkn]; exact kindOf_any x0 wx
      have hbody2 : readQ s = if kn = 0 then none else if kn = 2 then some ⟨key, 2, 0, r, f1, f2⟩ else match r with
        | [x] => (numF x).map fun m => ⟨key, kn, m, [], f1, f2⟩
        | _ => none := by rw [hbody, hkn]; rfl
      rw [← hkn] at hk4
      have HKQ := Lib.hid hkq
      clear hkq hkn hbody hdr
      have hd3 : decide ((m : Int) < 2) = false := by simp; omega
      clear hml
      have hqs := hq7
      obtain ⟨hrz, hbz, ⟨dz, hkz, hdz⟩, hqz, hallz⟩ := hqs
      obtain rfl := hdz (by have := HML.out; omega)
      have k0 := cell_at (i := 0) hkz rfl
      have b0 : w7.cell? ⟨rb + 1, dz, none⟩ = some (.string x0) := cell_at hbz (by simp [hx0])
      have b1 : w7.cell? ⟨rb + 1, dz + 1, none⟩ = some (.string key) := cell_at hbz (by simp [hx1])
      clear hrz hbz hkz hqz hdz hx0 hx1 hm2
      go_upto_region 8 with fail
      go_cut [] (fun wx => QS w rb ws dz m #[.string key, .int .i64 kn, .int .i64 0, .slice none 0 0, .bool f1, .bool f2] wx)
      case first =>
        clear hmf' eg hbody2 HR hk4 hd3 HSZ
        go_region_held3 (fun w' => w'.cell? ⟨rb + 2, 0, none⟩ = some (.slice (some ⟨rb + 1, dz, none⟩) m m) ∧ w'.cell? ⟨rb + 1, dz, none⟩ = some (.string x0) ∧ w'.cell? ⟨rb + 1, dz + 1, none⟩ = some (.string key)) (first | exact ⟨k0, b0, b1⟩ | exact ⟨c0, c1, c2⟩ | exact ⟨((Kept.setCell (F := (fun k => k ≠ rb + 3)) _ _ _ (fun h => h rfl)).cell k0 (by dsimp only; omega)), ((Kept.setCell (F := (fun k => k ≠ rb + 3)) _ _ _ (fun h => h rfl)).cell b0 (by dsimp only; omega)), ((Kept.setCell (F := (fun k => k ≠ rb + 3)) _ _ _ (fun h => h rfl)).cell b1 (by dsimp only; omega))⟩ | exact ⟨((Kept.setCell (F := (fun k => k ≠ rb + 3)) _ _ _ (fun h => h rfl)).cell c0 (by dsimp only; omega)), ((Kept.setCell (F := (fun k => k ≠ rb + 3)) _ _ _ (fun h => h rfl)).cell c1 (by dsimp only; omega)), ((Kept.setCell (F := (fun k => k ≠ rb + 3)) _ _ _ (fun h => h rfl)).cell c2 (by dsimp only; omega))⟩ | exact ⟨((Kept.setCell (F := (fun k => k ≠ rb + 3)) _ _ _ (fun h => h rfl)).cell ((Kept.setCell (F := (fun k => k ≠ rb + 3)) _ _ _ (fun h => h rfl)).cell c0 (by dsimp only; omega)) (by dsimp only; omega)), ((Kept.setCell (F := (fun k => k ≠ rb + 3)) _ _ _ (fun h => h rfl)).cell ((Kept.setCell (F := (fun k => k ≠ rb + 3)) _ _ _ (fun h => h rfl)).cell c1 (by dsimp only; omega)) (by dsimp only; omega)), ((Kept.setCell (F := (fun k => k ≠ rb + 3)) _ _ _ (fun h => h rfl)).cell ((Kept.setCell (F := (fun k => k ≠ rb + 3)) _ _ _ (fun h => h rfl)).cell c2 (by dsimp only; omega)) (by dsimp only; omega))⟩ | go_keep) (first | (go_at_call 186; refine (HKQ.out _).mono ?_; rintro e wk ⟨rfl, hwk⟩; have hp1 : All w7 wk := Kept.trans (by repeat (first | exact Kept.refl _ _ | refine Kept.then_drew ?_ | refine Kept.then_drewN ?_ _ | refine Kept.then_alloc ?_ _)) hwk; have c0 := hp1.cell k0 trivial; have c1 := hp1.cell b0 trivial; have c2 := hp1.cell b1 trivial; have hqk := hq7.step hp1; have fq0 := frozen_at (i := 0) hqk.2.2.2.1; have fq1 := frozen_at (i := 1) hqk.2.2.2.1; have qq0 := cell_at (i := 0) hqk.2.2.2.1 rfl; have qq1 := cell_at (i := 1) hqk.2.2.2.1 rfl))
        have bq := (hqk.put HRL.out 1 (.int .i64 kn)).put HRL.out 0 (.string key)
        simp only [List.setIfInBounds_toArray, List.set_cons_zero, List.set_cons_succ] at bq
        have HBQ := Lib.hid bq
        clear bq hqk
        go_wp2_with fail
        go_meet
        exact HBQ.out
      case rest =>
        have hqc := hcut
        clear hcut hq7 hallz k0 b0 b1
        obtain ⟨wx, rfl⟩ : ∃ x : World, x = wc := ⟨_, rfl⟩
        have hqs2 := hqc
        obtain ⟨hrz, hbz, ⟨dz, hkz, hdz⟩, hqz, hallz⟩ := hqs2
        have k0 := cell_at (i := 0) hkz rfl
        obtain rfl := hdz (by have := HML.out; omega)
        have s1 := cell_at (i := 1) hqz rfl
        rcases hk4 with rfl | rfl | rfl | rfl
        · have hb0 : readQ s = none := by rw [hbody2, if_pos rfl]
          clear hbody2 HR hbz hkz hd3
          have s0 := cell_at (i := 0) hqz rfl
          have s1 := cell_at (i := 1) hqz rfl
          have s2 := cell_at (i := 2) hqz rfl
          have s3 := cell_at (i := 3) hqz rfl
          have s4 := cell_at (i := 4) hqz rfl
          have s5 := cell_at (i := 5) hqz rfl
          have t0 := cell_at (i := 0) hrz rfl
          have t1 := cell_at (i := 1) hrz rfl
          have t2 := cell_at (i := 2) hrz rfl
          have t3 := cell_at (i := 3) hrz rfl
          have t4 := cell_at (i := 4) hrz rfl
          have t5 := cell_at (i := 5) hrz rfl
          have u0 := frozen_at (i := 0) hrz
          have u1 := frozen_at (i := 1) hrz
          have u2 := frozen_at (i := 2) hrz
          have u3 := frozen_at (i := 3) hrz
          have u4 := frozen_at (i := 4) hrz
          have u5 := frozen_at (i := 5) hrz
          have hr9 := (heap_setCell_at _ rb 5 (.bool f2) _ _ _ (heap_setCell_at _ rb 4 (.bool f1) _ _ _ (heap_setCell_at _ rb 3 (.slice none 0 0) _ _ _ (heap_setCell_at _ rb 2 (.int .i64 0) _ _ _ (heap_setCell_at _ rb 1 (.int .i64 0) _ _ _ (heap_setCell_at _ rb 0 (.string key) _ _ _ hrz))))))
          simp only [List.setIfInBounds_toArray, List.set_cons_zero, List.set_cons_succ] at hr9
          have v0 := cell_at (i := 0) hr9 rfl
          have v1 := cell_at (i := 1) hr9 rfl
          have v2 := cell_at (i := 2) hr9 rfl
          have v3 := cell_at (i := 3) hr9 rfl
          have v4 := cell_at (i := 4) hr9 rfl
          have v5 := cell_at (i := 5) hr9 rfl
          have hfin := Lib.hid (QPost.fin (key := key) (kind := 0) (most := 0) (oa := none) (oc := 0) (opts := []) (nd := f1) (sc := f2) (ok := false) hallz HRL.out (Nat.le_refl _) (by omega) (by decide) (Sl.nil _ _ _ _ _) hb0)
          clear hqz hrz hr9
          go_wp2_with fail
          refine bodyPost_ret (v := .tuple #[.agg #[.string key, .int .i64 0, .int .i64 0, .slice none 0 0, .bool f1, .bool f2], .bool false]) ?_ rfl hfin.out
          simp [results, Tryz.results118, go_sem, v0, v1, v2, v3, v4, v5]
        · have hb1 : readQ s = match r with
            | [x] => (numF x).map fun m => ⟨key, 1, m, [], f1, f2⟩
            | _ => none := by rw [hbody2, if_neg (by decide), if_neg (by decide)]
          clear hbody2 hd3
          by_cases hr1 : r.length = 1
          · obtain ⟨x, rfl⟩ : ∃ x, r = [x] := List.length_eq_one_iff.1 hr1
            obtain rfl : m = 3 := HML.out
            have hx2 : ws[dz + 2]? = some x := HR.out 0 (by simp)
            have b2 : wx.cell? ⟨rb + 1, dz + 2, none⟩ = some (.string x) := cell_at hbz (by simp [hx2])
            have HSM := Lib.hid (small_any x wx)
            clear hqz hrz hkz hallz hbz HR
            go_wp2_with fail
            refine HSM.out.mono ?_
            rintro e w9 ⟨v, ok, rfl, hk9, hnf⟩
            have hq9 := hqc.step hk9
            have q2 := cell_at (i := 2) hq9.2.2.2.1 rfl
            have z2 := frozen_at (i := 2) hq9.2.2.2.1
            have hq2 := hq9.put HRL.out 2 (.int .i64 v)
            simp only [List.setIfInBounds_toArray, List.set_cons_zero, List.set_cons_succ] at hq2
            have hb2 : readQ s = if ok = true then some ⟨key, 1, v, [], f1, f2⟩ else none := by
              rw [hb1]
              show (numF x).map _ = _
              rw [hnf]
              cases ok <;> rfl
            clear hqc hq9 hk9 hnf hb1 b2 s1 k0
            go_upto_region 18 with fail
            clear q2 z2
            obtain ⟨hrz, hbz, ⟨dz, hkz, hdz⟩, hqz, hallz⟩ := hq2
            clear hkz hbz hdz hi0 hi1
            have s0 := cell_at (i := 0) hqz rfl
            have s1 := cell_at (i := 1) hqz rfl
            have s2 := cell_at (i := 2) hqz rfl
            have s3 := cell_at (i := 3) hqz rfl
            have s4 := cell_at (i := 4) hqz rfl
            have s5 := cell_at (i := 5) hqz rfl
            have t0 := cell_at (i := 0) hrz rfl
            have t1 := cell_at (i := 1) hrz rfl
            have t2 := cell_at (i := 2) hrz rfl
            have t3 := cell_at (i := 3) hrz rfl
            have t4 := cell_at (i := 4) hrz rfl
            have t5 := cell_at (i := 5) hrz rfl
            have u0 := frozen_at (i := 0) hrz
            have u1 := frozen_at (i := 1) hrz
            have u2 := frozen_at (i := 2) hrz
            have u3 := frozen_at (i := 3) hrz
            have u4 := frozen_at (i := 4) hrz
            have u5 := frozen_at (i := 5) hrz
            have hr9 := (heap_setCell_at _ rb 5 (.bool f2) _ _ _ (heap_setCell_at _ rb 4 (.bool f1) _ _ _ (heap_setCell_at _ rb 3 (.slice none 0 0) _ _ _ (heap_setCell_at _ rb 2 (.int .i64 v) _ _ _ (heap_setCell_at _ rb 1 (.int .i64 1) _ _ _ (heap_setCell_at _ rb 0 (.string key) _ _ _ hrz))))))
            simp only [List.setIfInBounds_toArray, List.set_cons_zero, List.set_cons_succ] at hr9
            have v0 := cell_at (i := 0) hr9 rfl
            have v1 := cell_at (i := 1) hr9 rfl
            have v2 := cell_at (i := 2) hr9 rfl
            have v3 := cell_at (i := 3) hr9 rfl
            have v4 := cell_at (i := 4) hr9 rfl
            have v5 := cell_at (i := 5) hr9 rfl
            have hfin := Lib.hid (QPost.fin (key := key) (kind := 1) (most := v) (oa := none) (oc := 0) (opts := []) (nd := f1) (sc := f2) (ok := ok) hallz HRL.out (Nat.le_refl _) (by omega) (by decide) (Sl.nil _ _ _ _ _) hb2)
            clear hqz hrz hr9
            go_wp2_with fail
            refine bodyPost_ret (v := .tuple #[.agg #[.string key, .int .i64 1, .int .i64 v, .slice none 0 0, .bool f1, .bool f2], .bool ok]) ?_ rfl hfin.out
            simp [results, Tryz.results118, go_sem, v0, v1, v2, v3, v4, v5]
          · have hb0 : readQ s = none := by
              rw [hb1]
              match r, hr1 with
              | [], _ => rfl
              | [x], h => exact absurd rfl h
              | x :: y :: t, _ => rfl
            have hm3 : ((m : Int) == 3) = false := by rw [beq_eq_false_iff_ne]; have := HML.out; omega
            clear hb1 HR hbz
            go_upto_region 15 with fail
            clear hm3 hqc hdz hr1 hi0 hi1 k0 s1 hkz
            have s0 := cell_at (i := 0) hqz rfl
            have s1 := cell_at (i := 1) hqz rfl
            have s2 := cell_at (i := 2) hqz rfl
            have s3 := cell_at (i := 3) hqz rfl
            have s4 := cell_at (i := 4) hqz rfl
            have s5 := cell_at (i := 5) hqz rfl
            have t0 := cell_at (i := 0) hrz rfl
            have t1 := cell_at (i := 1) hrz rfl
            have t2 := cell_at (i := 2) hrz rfl
            have t3 := cell_at (i := 3) hrz rfl
            have t4 := cell_at (i := 4) hrz rfl
            have t5 := cell_at (i := 5) hrz rfl
            have u0 := frozen_at (i := 0) hrz
            have u1 := frozen_at (i := 1) hrz
            have u2 := frozen_at (i := 2) hrz
            have u3 := frozen_at (i := 3) hrz
            have u4 := frozen_at (i := 4) hrz
            have u5 := frozen_at (i := 5) hrz
            have hr9 := (heap_setCell_at _ rb 5 (.bool f2) _ _ _ (heap_setCell_at _ rb 4 (.bool f1) _ _ _ (heap_setCell_at _ rb 3 (.slice none 0 0) _ _ _ (heap_setCell_at _ rb 2 (.int .i64 0) _ _ _ (heap_setCell_at _ rb 1 (.int .i64 1) _ _ _ (heap_setCell_at _ rb 0 (.string key) _ _ _ hrz))))))
            simp only [List.setIfInBounds_toArray, List.set_cons_zero, List.set_cons_succ] at hr9
            have v0 := cell_at (i := 0) hr9 rfl
            have v1 := cell_at (i := 1) hr9 rfl
            have v2 := cell_at (i := 2) hr9 rfl
            have v3 := cell_at (i := 3) hr9 rfl
            have v4 := cell_at (i := 4) hr9 rfl
            have v5 := cell_at (i := 5) hr9 rfl
            have hfin := Lib.hid (QPost.fin (key := key) (kind := 1) (most := 0) (oa := none) (oc := 0) (opts := []) (nd := f1) (sc := f2) (ok := false) hallz HRL.out (Nat.le_refl _) (by omega) (by decide) (Sl.nil _ _ _ _ _) hb0)
            clear hqz hrz hr9
            go_wp2_with fail
            refine bodyPost_ret (v := .tuple #[.agg #[.string key, .int .i64 1, .int .i64 0, .slice none 0 0, .bool f1, .bool f2], .bool false]) ?_ rfl hfin.out
            simp [results, Tryz.results118, go_sem, v0, v1, v2, v3, v4, v5]
        · have hb2 : readQ s = some ⟨key, 2, 0, r, f1, f2⟩ := by rw [hbody2, if_neg (by decide), if_pos rfl]
          clear hbody2 hd3
          by_cases hr0 : r.length = 0
          · obtain rfl : r = [] := List.eq_nil_of_length_eq_zero hr0
            obtain rfl : m = 2 := HML.out
            have q3 := cell_at (i := 3) hqz rfl
            have z3 := frozen_at (i := 3) hqz
            have hq2 := hqc.put HRL.out 3 (.slice (some ⟨rb + 1, dz, none⟩) 0 0)
            simp only [List.setIfInBounds_toArray, List.set_cons_zero, List.set_cons_succ] at hq2
            clear hqz hrz hkz hallz hbz hqc HR
            go_upto_region 13 with fail
            clear k0 s1 q3 z3
            obtain ⟨hrz, hbz, ⟨dz, hkz, hdz⟩, hqz, hallz⟩ := hq2
            obtain rfl := hdz (by omega)
            clear hkz hbz hdz hi0 hi1 hr0 hnl hn0 hn1 hnm
            have s0 := cell_at (i := 0) hqz rfl
            have s1 := cell_at (i := 1) hqz rfl
            have s2 := cell_at (i := 2) hqz rfl
            have s3 := cell_at (i := 3) hqz rfl
            have s4 := cell_at (i := 4) hqz rfl
            have s5 := cell_at (i := 5) hqz rfl
            have t0 := cell_at (i := 0) hrz rfl
            have t1 := cell_at (i := 1) hrz rfl
            have t2 := cell_at (i := 2) hrz rfl
            have t3 := cell_at (i := 3) hrz rfl
            have t4 := cell_at (i := 4) hrz rfl
            have t5 := cell_at (i := 5) hrz rfl
            have u0 := frozen_at (i := 0) hrz
            have u1 := frozen_at (i := 1) hrz
            have u2 := frozen_at (i := 2) hrz
            have u3 := frozen_at (i := 3) hrz
            have u4 := frozen_at (i := 4) hrz
            have u5 := frozen_at (i := 5) hrz
            have hr9 := (heap_setCell_at _ rb 5 (.bool f2) _ _ _ (heap_setCell_at _ rb 4 (.bool f1) _ _ _ (heap_setCell_at _ rb 3 (.slice (some ⟨rb + 1, dz, none⟩) 0 0) _ _ _ (heap_setCell_at _ rb 2 (.int .i64 0) _ _ _ (heap_setCell_at _ rb 1 (.int .i64 2) _ _ _ (heap_setCell_at _ rb 0 (.string key) _ _ _ hrz))))))
            simp only [List.setIfInBounds_toArray, List.set_cons_zero, List.set_cons_succ] at hr9
            have v0 := cell_at (i := 0) hr9 rfl
            have v1 := cell_at (i := 1) hr9 rfl
            have v2 := cell_at (i := 2) hr9 rfl
            have v3 := cell_at (i := 3) hr9 rfl
            have v4 := cell_at (i := 4) hr9 rfl
            have v5 := cell_at (i := 5) hr9 rfl
            have hfin := Lib.hid (QPost.fin (key := key) (kind := 2) (most := 0) (oa := some ⟨rb + 1, dz, none⟩) (oc := 0) (opts := []) (nd := f1) (sc := f2) (ok := true) hallz HRL.out (Nat.le_refl _) (by omega) (by decide) (Sl.nil _ _ _ _ _) hb2)
            clear hqz hrz hr9
            go_wp2_with fail
            refine bodyPost_ret (v := .tuple #[.agg #[.string key, .int .i64 2, .int .i64 0, .slice (some ⟨rb + 1, dz, none⟩) 0 0, .bool f1, .bool f2], .bool true]) ?_ rfl hfin.out
            simp [results, Tryz.results118, go_sem, v0, v1, v2, v3, v4, v5]
          · have hml := HML.out
            subst hml
            have h22 : (2 : Int) ≤ (r.length : Int) + 2 := by omega
            have q3 := cell_at (i := 3) hqz rfl
            have z3 := frozen_at (i := 3) hqz
            have hq2 := hqc.put HRL.out 3 (.slice (some ⟨rb + 1, dz + 2, none⟩) r.length r.length)
            simp only [List.setIfInBounds_toArray, List.set_cons_zero, List.set_cons_succ] at hq2
            have hsl : Sl RStr 1 (fun k => w.heap.size ≤ k ∧ k ≠ rb) (wx.setCell ⟨rb + 3, 3, none⟩ (.slice (some ⟨rb + 1, dz + 2, none⟩) r.length r.length)) (some ⟨rb + 1, dz + 2, none⟩) r.length r := Sl.of_strs rfl ⟨by have := HRL.out; omega, by omega⟩ (fun i hi => by
              have h1 := HR.out i hi
              refine cell_at hq2.2.1 ?_
              rw [List.getElem?_toArray, List.getElem?_map, h1, List.getD_eq_getElem?_getD, List.getElem?_eq_getElem hi]; rfl) (fun x hx => by
              obtain ⟨i, hi, rfl⟩ := List.mem_iff_getElem.1 hx
              have := HSZ.out _ (List.mem_of_getElem? (HR.out i hi)); omega)
            clear hqz hrz hkz hallz hbz hqc HR
            go_upto_region 13 with fail
            clear k0 s1 q3 z3
            obtain ⟨hrz, hbz, ⟨dz, hkz, hdz⟩, hqz, hallz⟩ := hq2
            obtain rfl := hdz (by omega)
            clear hkz hbz hdz hi0 hi1 hr0 h22 hn0 hn1 hnm hnl
            have s0 := cell_at (i := 0) hqz rfl
            have s1 := cell_at (i := 1) hqz rfl
            have s2 := cell_at (i := 2) hqz rfl
            have s3 := cell_at (i := 3) hqz rfl
            have s4 := cell_at (i := 4) hqz rfl
            have s5 := cell_at (i := 5) hqz rfl
            have t0 := cell_at (i := 0) hrz rfl
            have t1 := cell_at (i := 1) hrz rfl
            have t2 := cell_at (i := 2) hrz rfl
            have t3 := cell_at (i := 3) hrz rfl
            have t4 := cell_at (i := 4) hrz rfl
            have t5 := cell_at (i := 5) hrz rfl
            have u0 := frozen_at (i := 0) hrz
            have u1 := frozen_at (i := 1) hrz
            have u2 := frozen_at (i := 2) hrz
            have u3 := frozen_at (i := 3) hrz
            have u4 := frozen_at (i := 4) hrz
            have u5 := frozen_at (i := 5) hrz
            have hr9 := (heap_setCell_at _ rb 5 (.bool f2) _ _ _ (heap_setCell_at _ rb 4 (.bool f1) _ _ _ (heap_setCell_at _ rb 3 (.slice (some ⟨rb + 1, dz + 2, none⟩) r.length r.length) _ _ _ (heap_setCell_at _ rb 2 (.int .i64 0) _ _ _ (heap_setCell_at _ rb 1 (.int .i64 2) _ _ _ (heap_setCell_at _ rb 0 (.string key) _ _ _ hrz))))))
            simp only [List.setIfInBounds_toArray, List.set_cons_zero, List.set_cons_succ] at hr9
            have v0 := cell_at (i := 0) hr9 rfl
            have v1 := cell_at (i := 1) hr9 rfl
            have v2 := cell_at (i := 2) hr9 rfl
            have v3 := cell_at (i := 3) hr9 rfl
            have v4 := cell_at (i := 4) hr9 rfl
            have v5 := cell_at (i := 5) hr9 rfl
            have hfin := Lib.hid (QPost.fin (key := key) (kind := 2) (most := 0) (oa := some ⟨rb + 1, dz + 2, none⟩) (oc := r.length) (opts := r) (nd := f1) (sc := f2) (ok := true) hallz HRL.out (Nat.le_refl _) (by omega) (by omega) hsl hb2)
            clear hqz hrz hr9
            go_wp2_with fail
            refine bodyPost_ret (v := .tuple #[.agg #[.string key, .int .i64 2, .int .i64 0, .slice (some ⟨rb + 1, dz + 2, none⟩) r.length r.length, .bool f1, .bool f2], .bool true]) ?_ rfl hfin.out
            simp [results, Tryz.results118, go_sem, v0, v1, v2, v3, v4, v5]
        · have hb1 : readQ s = match r with
            | [x] => (numF x).map fun m => ⟨key, 3, m, [], f1, f2⟩
            | _ => none := by rw [hbody2, if_neg (by decide), if_neg (by decide)]
          clear hbody2 hd3
          by_cases hr1 : r.length = 1
          · obtain ⟨x, rfl⟩ : ∃ x, r = [x] := List.length_eq_one_iff.1 hr1
            obtain rfl : m = 3 := HML.out
            have hx2 : ws[dz + 2]? = some x := HR.out 0 (by simp)
            have b2 : wx.cell? ⟨rb + 1, dz + 2, none⟩ = some (.string x) := cell_at hbz (by simp [hx2])
            have HSM := Lib.hid (small_any x wx)
            clear hqz hrz hkz hallz hbz HR
            go_wp2_with fail
            refine HSM.out.mono ?_
            rintro e w9 ⟨v, ok, rfl, hk9, hnf⟩
            have hq9 := hqc.step hk9
            have q2 := cell_at (i := 2) hq9.2.2.2.1 rfl
            have z2 := frozen_at (i := 2) hq9.2.2.2.1
            have hq2 := hq9.put HRL.out 2 (.int .i64 v)
            simp only [List.setIfInBounds_toArray, List.set_cons_zero, List.set_cons_succ] at hq2
            have hb2 : readQ s = if ok = true then some ⟨key, 3, v, [], f1, f2⟩ else none := by
              rw [hb1]
              show (numF x).map _ = _
              rw [hnf]
              cases ok <;> rfl
            clear hqc hq9 hk9 hnf hb1 b2 s1 k0
            go_upto_region 18 with fail
            clear q2 z2
            obtain ⟨hrz, hbz, ⟨dz, hkz, hdz⟩, hqz, hallz⟩ := hq2
            clear hkz hbz hdz hi0 hi1
            have s0 := cell_at (i := 0) hqz rfl
            have s1 := cell_at (i := 1) hqz rfl
            have s2 := cell_at (i := 2) hqz rfl
            have s3 := cell_at (i := 3) hqz rfl
            have s4 := cell_at (i := 4) hqz rfl
            have s5 := cell_at (i := 5) hqz rfl
            have t0 := cell_at (i := 0) hrz rfl
            have t1 := cell_at (i := 1) hrz rfl
            have t2 := cell_at (i := 2) hrz rfl
            have t3 := cell_at (i := 3) hrz rfl
            have t4 := cell_at (i := 4) hrz rfl
            have t5 := cell_at (i := 5) hrz rfl
            have u0 := frozen_at (i := 0) hrz
            have u1 := frozen_at (i := 1) hrz
            have u2 := frozen_at (i := 2) hrz
            have u3 := frozen_at (i := 3) hrz
            have u4 := frozen_at (i := 4) hrz
            have u5 := frozen_at (i := 5) hrz
            have hr9 := (heap_setCell_at _ rb 5 (.bool f2) _ _ _ (heap_setCell_at _ rb 4 (.bool f1) _ _ _ (heap_setCell_at _ rb 3 (.slice none 0 0) _ _ _ (heap_setCell_at _ rb 2 (.int .i64 v) _ _ _ (heap_setCell_at _ rb 1 (.int .i64 3) _ _ _ (heap_setCell_at _ rb 0 (.string key) _ _ _ hrz))))))
            simp only [List.setIfInBounds_toArray, List.set_cons_zero, List.set_cons_succ] at hr9
            have v0 := cell_at (i := 0) hr9 rfl
            have v1 := cell_at (i := 1) hr9 rfl
            have v2 := cell_at (i := 2) hr9 rfl
            have v3 := cell_at (i := 3) hr9 rfl
            have v4 := cell_at (i := 4) hr9 rfl
            have v5 := cell_at (i := 5) hr9 rfl
            have hfin := Lib.hid (QPost.fin (key := key) (kind := 3) (most := v) (oa := none) (oc := 0) (opts := []) (nd := f1) (sc := f2) (ok := ok) hallz HRL.out (Nat.le_refl _) (by omega) (by decide) (Sl.nil _ _ _ _ _) hb2)
            clear hqz hrz hr9
            go_wp2_with fail
            refine bodyPost_ret (v := .tuple #[.agg #[.string key, .int .i64 3, .int .i64 v, .slice none 0 0, .bool f1, .bool f2], .bool ok]) ?_ rfl hfin.out
            simp [results, Tryz.results118, go_sem, v0, v1, v2, v3, v4, v5]
          · have hb0 : readQ s = none := by
              rw [hb1]
              match r, hr1 with
              | [], _ => rfl
              | [x], h => exact absurd rfl h
              | x :: y :: t, _ => rfl
            have hm3 : ((m : Int) == 3) = false := by rw [beq_eq_false_iff_ne]; have := HML.out; omega
            clear hb1 HR hbz
            go_upto_region 15 with fail
            clear hm3 hqc hdz hr1 hi0 hi1 k0 s1 hkz
            have s0 := cell_at (i := 0) hqz rfl
            have s1 := cell_at (i := 1) hqz rfl
            have s2 := cell_at (i := 2) hqz rfl
            have s3 := cell_at (i := 3) hqz rfl
            have s4 := cell_at (i := 4) hqz rfl
            have s5 := cell_at (i := 5) hqz rfl
            have t0 := cell_at (i := 0) hrz rfl
            have t1 := cell_at (i := 1) hrz rfl
            have t2 := cell_at (i := 2) hrz rfl
            have t3 := cell_at (i := 3) hrz rfl
            have t4 := cell_at (i := 4) hrz rfl
            have t5 := cell_at (i := 5) hrz rfl
            have u0 := frozen_at (i := 0) hrz
            have u1 := frozen_at (i := 1) hrz
            have u2 := frozen_at (i := 2) hrz
            have u3 := frozen_at (i := 3) hrz
            have u4 := frozen_at (i := 4) hrz
            have u5 := frozen_at (i := 5) hrz
            have hr9 := (heap_setCell_at _ rb 5 (.bool f2) _ _ _ (heap_setCell_at _ rb 4 (.bool f1) _ _ _ (heap_setCell_at _ rb 3 (.slice none 0 0) _ _ _ (heap_setCell_at _ rb 2 (.int .i64 0) _ _ _ (heap_setCell_at _ rb 1 (.int .i64 3) _ _ _ (heap_setCell_at _ rb 0 (.string key) _ _ _ hrz))))))
            simp only [List.setIfInBounds_toArray, List.set_cons_zero, List.set_cons_succ] at hr9
            have v0 := cell_at (i := 0) hr9 rfl
            have v1 := cell_at (i := 1) hr9 rfl
            have v2 := cell_at (i := 2) hr9 rfl
            have v3 := cell_at (i := 3) hr9 rfl
            have v4 := cell_at (i := 4) hr9 rfl
            have v5 := cell_at (i := 5) hr9 rfl
            have hfin := Lib.hid (QPost.fin (key := key) (kind := 3) (most := 0) (oa := none) (oc := 0) (opts := []) (nd := f1) (sc := f2) (ok := false) hallz HRL.out (Nat.le_refl _) (by omega) (by decide) (Sl.nil _ _ _ _ _) hb0)
            clear hqz hrz hr9
            go_wp2_with fail
            refine bodyPost_ret (v := .tuple #[.agg #[.string key, .int .i64 3, .int .i64 0, .slice none 0 0, .bool f1, .bool f2], .bool false]) ?_ rfl hfin.out
            simp [results, Tryz.results118, go_sem, v0, v1, v2, v3, v4, v5]
end Go.Proofs.YtjbaijgdkkccbaaGreatDoor
