/- Where a question is, where an answer is. -/
import Derived.Test.YtdgpminhkiilfaaGreatDoorAa
namespace Go.Proofs.YtdgpminhkiilfaaGreatDoor
open Go.RowKit

/-- Function value g with what it has captured answers p. -/
def AnswersQ (P : Program) (g : FuncId) (caps : Array Value) (w : World) (p : Qst → Bool) : Prop :=
  ∀ (y : Qst) (oa : Option Addr) (oc : Nat) (wx : World), All w wx → Calls P g (#[.agg #[.string y.key, .int .i64 y.kind, .int .i64 y.most, .slice oa y.opts.length oc, .bool y.needed, .bool y.secret]] ++ caps) wx fun e w' => e = .returned (.bool (p y)) ∧ All wx w'
set_option maxHeartbeats 1600000 in
theorem indexQst_any (g : FuncId) (caps : Array Value) (eg : ∀ args w, (callFunc g args).run Tryz.prog w = .ok (.enter g args) w) (p : Qst → Bool)
    (a : Option Addr) (len cap : Nat) (ss : List Qst) (w : World) (hs : Sl RQst 6 (fun _ => True) w a len ss) (hl : len ≤ 1000000) (hp : AnswersQ Tryz.prog g caps w p) :
    Calls Tryz.prog 90 #[.slice a len cap, .func (.func g) #[] caps] w fun e w' => e = .returned (.int .i64 (findG p 0 ss)) ∧ All w w' := by
  have hlen := hs.len
  have HP := Lib.hid hp
  clear hp
  go_enter Tryz.func90, Tryz.ntmps90
  go_wp2
  go_loopw [5, 8] (fun _ i wr => ∃ k : Nat, k ≤ len ∧ i = .int .i64 k ∧ (ss.take k).any p = false ∧ All w wr) (fun _ i _ => len - (intOf i).toNat)
  case atStart => exact ⟨0, Nat.zero_le _, rfl, by simp, Kept.refl _ _⟩
  case round =>
    obtain ⟨k, hk, rfl, hnot, hall⟩ := hrel
    by_cases hlt : k < len
    · obtain ⟨b, off, y, oa, oc, ha, -, c0, c1, c2, c3, c4, c5, -, -, -, hy, htake⟩ := (hs.keep RQst.ok hall).atQst hlt
      have hltake : (ss.take k).length = k := by simp; omega
      have hsplit : ss = ss.take k ++ y :: ss.drop (k + 1) := by rw [← drop_at hy, List.take_append_drop]
      have Hsplit := Lib.hid hsplit
      have Htake := Lib.hid htake
      have Hl := Lib.hid hltake
      have Hnot := Lib.hid hnot
      clear hsplit htake hltake hlen hnot hy
      subst ha
      clear hs
      cases hpy : p y with
      | true =>
        have hfin : findG p 0 ss = k := by rw [Hsplit.out, findG_append Hnot.out, Hl.out, findG, if_pos hpy]; simp
        have Hfin := Lib.hid hfin
        clear hfin
        go_wp2_with fail
        refine (HP.out y oa oc _ hall).mono ?_
        rintro e w' ⟨rfl, hw⟩
        rw [hpy]
        go_wp2_with fail
        go_ret
        exact ⟨ret_int' Hfin.out.symm, hall.trans hw⟩
      | false =>
        go_wp2_with fail
        refine (HP.out y oa oc _ hall).mono ?_
        rintro e w' ⟨rfl, hw⟩
        rw [hpy]
        go_wp2_with fail
        go_roundw
        case rel => exact ⟨k + 1, by omega, by go_num, by rw [Htake.out, List.any_append, Hnot.out]; simp [hpy], hall.trans hw⟩
        case measure => simp [intOf]; omega
    · have hd : decide ((k : Int) < (len : Int)) = false := by simp; omega
      have hfin : findG p 0 ss = -1 := findG_neg (by rw [List.take_of_length_le (by omega)] at hnot; exact hnot)
      have Hfin := Lib.hid hfin
      clear hfin
      go_wp2
      go_ret
      exact ⟨ret_int' Hfin.out.symm, hall⟩

/-- Function value g with what it has captured answers p. -/
def AnswersA (P : Program) (g : FuncId) (caps : Array Value) (w : World) (p : Ans4 → Bool) : Prop :=
  ∀ (y : Ans4) (wx : World), All w wx → Calls P g (#[ansVal y] ++ caps) wx fun e w' => e = .returned (.bool (p y)) ∧ All wx w'
set_option maxHeartbeats 1600000 in
theorem indexAns_any (g : FuncId) (caps : Array Value) (eg : ∀ args w, (callFunc g args).run Tryz.prog w = .ok (.enter g args) w) (p : Ans4 → Bool)
    (a : Option Addr) (len cap : Nat) (ss : List Ans4) (w : World) (hs : Sl RAns 4 (fun _ => True) w a len ss) (hl : len ≤ 1000000) (hp : AnswersA Tryz.prog g caps w p) :
    Calls Tryz.prog 87 #[.slice a len cap, .func (.func g) #[] caps] w fun e w' => e = .returned (.int .i64 (findG p 0 ss)) ∧ All w w' := by
  have hlen := hs.len
  have HP := Lib.hid hp
  clear hp
  go_enter Tryz.func87, Tryz.ntmps87
  go_wp2
  go_loopw [5, 8] (fun _ i wr => ∃ k : Nat, k ≤ len ∧ i = .int .i64 k ∧ (ss.take k).any p = false ∧ All w wr) (fun _ i _ => len - (intOf i).toNat)
  case atStart => exact ⟨0, Nat.zero_le _, rfl, by simp, Kept.refl _ _⟩
  case round =>
    obtain ⟨k, hk, rfl, hnot, hall⟩ := hrel
    by_cases hlt : k < len
    · obtain ⟨b, off, y, ha, -, c0, c1, c2, c3, -, hy, htake⟩ := (hs.keep RAns.ok hall).atAns hlt
      have hltake : (ss.take k).length = k := by simp; omega
      have hsplit : ss = ss.take k ++ y :: ss.drop (k + 1) := by rw [← drop_at hy, List.take_append_drop]
      have Hsplit := Lib.hid hsplit
      have Htake := Lib.hid htake
      have Hl := Lib.hid hltake
      have Hnot := Lib.hid hnot
      clear hsplit htake hltake hlen hnot hy
      subst ha
      clear hs
      cases hpy : p y with
      | true =>
        have hfin : findG p 0 ss = k := by rw [Hsplit.out, findG_append Hnot.out, Hl.out, findG, if_pos hpy]; simp
        have Hfin := Lib.hid hfin
        clear hfin
        go_wp2_with fail
        refine (HP.out y _ hall).mono ?_
        rintro e w' ⟨rfl, hw⟩
        rw [hpy]
        go_wp2_with fail
        go_ret
        exact ⟨ret_int' Hfin.out.symm, hall.trans hw⟩
      | false =>
        go_wp2_with fail
        refine (HP.out y _ hall).mono ?_
        rintro e w' ⟨rfl, hw⟩
        rw [hpy]
        go_wp2_with fail
        go_roundw
        case rel => exact ⟨k + 1, by omega, by go_num, by rw [Htake.out, List.any_append, Hnot.out]; simp [hpy], hall.trans hw⟩
        case measure => simp [intOf]; omega
    · have hd : decide ((k : Int) < (len : Int)) = false := by simp; omega
      have hfin : findG p 0 ss = -1 := findG_neg (by rw [List.take_of_length_le (by omega)] at hnot; exact hnot)
      have Hfin := Lib.hid hfin
      clear hfin
      go_wp2
      go_ret
      exact ⟨ret_int' Hfin.out.symm, hall⟩

theorem containsAns_any (g : FuncId) (caps : Array Value) (eg : ∀ args w, (callFunc g args).run Tryz.prog w = .ok (.enter g args) w) (p : Ans4 → Bool)
    (a : Option Addr) (len cap : Nat) (ss : List Ans4) (w : World) (hs : Sl RAns 4 (fun _ => True) w a len ss) (hl : len ≤ 1000000) (hp : AnswersA Tryz.prog g caps w p) :
    Calls Tryz.prog 96 #[.slice a len cap, .func (.func g) #[] caps] w fun e w' => e = .returned (.bool (ss.any p)) ∧ All w w' := by
  have hI := Lib.hid (indexAns_any g caps eg p a len cap ss w hs hl hp)
  clear hp
  cases hx : ss.any p with
  | true =>
    have h0 := findG_nonneg (k := 0) hx
    clear hx
    go_enter Tryz.func96, Tryz.ntmps96
    go_wp2_with fail
    refine hI.out.mono ?_
    rintro e w' ⟨rfl, hw⟩
    go_wp2
    go_ret
    exact ⟨rfl, hw⟩
  | false =>
    have h0 := findG_neg (k := 0) hx
    clear hx
    go_enter Tryz.func96, Tryz.ntmps96
    go_wp2_with fail
    refine hI.out.mono ?_
    rintro e w' ⟨rfl, hw⟩
    rw [h0]
    go_wp2
    go_ret
    exact ⟨rfl, hw⟩

theorem place1_any (kp : Nat) (p : ByteArray) (y : Qst) (oa : Option Addr) (oc : Nat) (w : World) (ck : w.cell? ⟨kp, 0, none⟩ = some (.string p)) :
    Calls Tryz.prog 93 #[.agg #[.string y.key, .int .i64 y.kind, .int .i64 y.most, .slice oa y.opts.length oc, .bool y.needed, .bool y.secret], .pointer (some ⟨kp, 0, none⟩)] w fun e w' => e = .returned (.bool (isQ p y)) ∧ All w w' := by
  have hkp := lt_of_cell ck
  dsimp only at hkp
  have e1 : (y.key.toList == p.toList) = isQ p y := by
    by_cases h : y.key = p
    · simp [isQ, h]
    · have h2 : (y.key.toList == p.toList) = false := by simp; exact fun e => h (bytes_ext e)
      rw [h2]; simp [isQ, h]
  generalize isQ p y = b at e1 ⊢
  go_enter Tryz.func93, Tryz.ntmps93
  go_wp2_with fail
  go_ret
  exact ⟨rfl, Kept.alloc _ _ _⟩

theorem questionAt1_any (kp : Nat) (p : ByteArray) (y : Qst) (oa : Option Addr) (oc : Nat) (w : World) (ck : w.cell? ⟨kp, 0, none⟩ = some (.string p)) :
    Calls Tryz.prog 91 #[.agg #[.string y.key, .int .i64 y.kind, .int .i64 y.most, .slice oa y.opts.length oc, .bool y.needed, .bool y.secret], .pointer (some ⟨kp, 0, none⟩)] w fun e w' => e = .returned (.bool (isQ p y)) ∧ All w w' := by
  have hkp := lt_of_cell ck
  dsimp only at hkp
  have e1 : (y.key.toList == p.toList) = isQ p y := by
    by_cases h : y.key = p
    · simp [isQ, h]
    · have h2 : (y.key.toList == p.toList) = false := by simp; exact fun e => h (bytes_ext e)
      rw [h2]; simp [isQ, h]
  generalize isQ p y = b at e1 ⊢
  go_enter Tryz.func91, Tryz.ntmps91
  go_wp2_with fail
  go_ret
  exact ⟨rfl, Kept.alloc _ _ _⟩

theorem has1_any (kp : Nat) (p : ByteArray) (y : Ans4) (w : World) (ck : w.cell? ⟨kp, 0, none⟩ = some (.string p)) :
    Calls Tryz.prog 125 #[ansVal y, .pointer (some ⟨kp, 0, none⟩)] w fun e w' => e = .returned (.bool (isA p y)) ∧ All w w' := by
  have hkp := lt_of_cell ck
  dsimp only at hkp
  have e1 : (y.question.toList == p.toList) = isA p y := by
    by_cases h : y.question = p
    · simp [isA, h]
    · have h2 : (y.question.toList == p.toList) = false := by simp; exact fun e => h (bytes_ext e)
      rw [h2]; simp [isA, h]
  generalize isA p y = b at e1 ⊢
  go_enter Tryz.func125, Tryz.ntmps125
  go_wp2_with fail
  go_ret
  exact ⟨rfl, Kept.alloc _ _ _⟩

theorem answered1_any (kp : Nat) (p : ByteArray) (y : Ans4) (w : World) (ck : w.cell? ⟨kp, 0, none⟩ = some (.string p)) :
    Calls Tryz.prog 97 #[ansVal y, .pointer (some ⟨kp, 0, none⟩)] w fun e w' => e = .returned (.bool (isA p y)) ∧ All w w' := by
  have hkp := lt_of_cell ck
  dsimp only at hkp
  have e1 : (y.question.toList == p.toList) = isA p y := by
    by_cases h : y.question = p
    · simp [isA, h]
    · have h2 : (y.question.toList == p.toList) = false := by simp; exact fun e => h (bytes_ext e)
      rw [h2]; simp [isA, h]
  generalize isA p y = b at e1 ⊢
  go_enter Tryz.func97, Tryz.ntmps97
  go_wp2_with fail
  go_ret
  exact ⟨rfl, Kept.alloc _ _ _⟩

theorem answerTo1_any (kp : Nat) (p : ByteArray) (y : Ans4) (w : World) (ck : w.cell? ⟨kp, 0, none⟩ = some (.string p)) :
    Calls Tryz.prog 88 #[ansVal y, .pointer (some ⟨kp, 0, none⟩)] w fun e w' => e = .returned (.bool (isA p y)) ∧ All w w' := by
  have hkp := lt_of_cell ck
  dsimp only at hkp
  have e1 : (y.question.toList == p.toList) = isA p y := by
    by_cases h : y.question = p
    · simp [isA, h]
    · have h2 : (y.question.toList == p.toList) = false := by simp; exact fun e => h (bytes_ext e)
      rw [h2]; simp [isA, h]
  generalize isA p y = b at e1 ⊢
  go_enter Tryz.func88, Tryz.ntmps88
  go_wp2_with fail
  go_ret
  exact ⟨rfl, Kept.alloc _ _ _⟩

theorem place_any (a : Option Addr) (len cap : Nat) (xs : List Qst) (p : ByteArray) (w : World) (hs : Sl RQst 6 (fun _ => True) w a len xs) (hl : len ≤ 1000000) :
    Calls Tryz.prog 48 #[.slice a len cap, .string p] w fun e w' => e = .returned (.int .i64 (findG (isQ p) 0 xs)) ∧ All w w' := by
  have hk1 : All w (w.alloc (.cells #[.string p] 9)) := Kept.alloc _ _ _
  have ha := heap_at w (.cells #[.string p] 9) _ rfl
  have hans : AnswersQ Tryz.prog 93 #[.pointer (some ⟨w.heap.size, 0, none⟩)] (w.alloc (.cells #[.string p] 9)) (isQ p) := fun y oa oc wx hwx =>
    place1_any _ p y oa oc wx (hwx.cell (cell_at ha rfl) trivial)
  have eg : ∀ args w, (callFunc 93 args).run Tryz.prog w = .ok (.enter 93 args) w := enters_of Tryz.func93 (by kernel_rfl) rfl
  have HF := Lib.hid (indexQst_any 93 _ eg (isQ p) a len cap xs _ (hs.keep RQst.ok hk1) hl hans)
  have hmf' := hmfC
  clear hans eg ha hs
  go_enter Tryz.func48, Tryz.ntmps48
  go_wp2_with fail
  refine HF.out.mono ?_
  rintro e w2 ⟨rfl, hw2⟩
  go_wp2_with fail
  go_ret
  exact ⟨rfl, hk1.trans hw2⟩

theorem questionAt_any (a : Option Addr) (len cap : Nat) (xs : List Qst) (p : ByteArray) (w : World) (hs : Sl RQst 6 (fun _ => True) w a len xs) (hl : len ≤ 1000000) :
    Calls Tryz.prog 44 #[.slice a len cap, .string p] w fun e w' => e = .returned (.int .i64 (findG (isQ p) 0 xs)) ∧ All w w' := by
  have hk1 : All w (w.alloc (.cells #[.string p] 9)) := Kept.alloc _ _ _
  have ha := heap_at w (.cells #[.string p] 9) _ rfl
  have hans : AnswersQ Tryz.prog 91 #[.pointer (some ⟨w.heap.size, 0, none⟩)] (w.alloc (.cells #[.string p] 9)) (isQ p) := fun y oa oc wx hwx =>
    questionAt1_any _ p y oa oc wx (hwx.cell (cell_at ha rfl) trivial)
  have eg : ∀ args w, (callFunc 91 args).run Tryz.prog w = .ok (.enter 91 args) w := enters_of Tryz.func91 (by kernel_rfl) rfl
  have HF := Lib.hid (indexQst_any 91 _ eg (isQ p) a len cap xs _ (hs.keep RQst.ok hk1) hl hans)
  have hmf' := hmfC
  clear hans eg ha hs
  go_enter Tryz.func44, Tryz.ntmps44
  go_wp2_with fail
  refine HF.out.mono ?_
  rintro e w2 ⟨rfl, hw2⟩
  go_wp2_with fail
  go_ret
  exact ⟨rfl, hk1.trans hw2⟩

theorem has_any (a : Option Addr) (len cap : Nat) (xs : List Ans4) (p : ByteArray) (w : World) (hs : Sl RAns 4 (fun _ => True) w a len xs) (hl : len ≤ 1000000) :
    Calls Tryz.prog 86 #[.slice a len cap, .string p] w fun e w' => e = .returned (.bool (xs.any (isA p))) ∧ All w w' := by
  have hk1 : All w (w.alloc (.cells #[.string p] 9)) := Kept.alloc _ _ _
  have ha := heap_at w (.cells #[.string p] 9) _ rfl
  have hans : AnswersA Tryz.prog 125 #[.pointer (some ⟨w.heap.size, 0, none⟩)] (w.alloc (.cells #[.string p] 9)) (isA p) := fun y wx hwx =>
    has1_any _ p y wx (hwx.cell (cell_at ha rfl) trivial)
  have eg : ∀ args w, (callFunc 125 args).run Tryz.prog w = .ok (.enter 125 args) w := enters_of Tryz.func125 (by kernel_rfl) rfl
  have HF := Lib.hid (containsAns_any 125 _ eg (isA p) a len cap xs _ (hs.keep RAns.ok hk1) hl hans)
  have hmf' := hmfC
  clear hans eg ha hs
  go_enter Tryz.func86, Tryz.ntmps86
  go_wp2_with fail
  refine HF.out.mono ?_
  rintro e w2 ⟨rfl, hw2⟩
  go_wp2_with fail
  go_ret
  exact ⟨rfl, hk1.trans hw2⟩

theorem answered_any (a : Option Addr) (len cap : Nat) (xs : List Ans4) (p : ByteArray) (w : World) (hs : Sl RAns 4 (fun _ => True) w a len xs) (hl : len ≤ 1000000) :
    Calls Tryz.prog 51 #[.slice a len cap, .string p] w fun e w' => e = .returned (.bool (xs.any (isA p))) ∧ All w w' := by
  have hk1 : All w (w.alloc (.cells #[.string p] 9)) := Kept.alloc _ _ _
  have ha := heap_at w (.cells #[.string p] 9) _ rfl
  have hans : AnswersA Tryz.prog 97 #[.pointer (some ⟨w.heap.size, 0, none⟩)] (w.alloc (.cells #[.string p] 9)) (isA p) := fun y wx hwx =>
    answered1_any _ p y wx (hwx.cell (cell_at ha rfl) trivial)
  have eg : ∀ args w, (callFunc 97 args).run Tryz.prog w = .ok (.enter 97 args) w := enters_of Tryz.func97 (by kernel_rfl) rfl
  have HF := Lib.hid (containsAns_any 97 _ eg (isA p) a len cap xs _ (hs.keep RAns.ok hk1) hl hans)
  have hmf' := hmfC
  clear hans eg ha hs
  go_enter Tryz.func51, Tryz.ntmps51
  go_wp2_with fail
  refine HF.out.mono ?_
  rintro e w2 ⟨rfl, hw2⟩
  go_wp2_with fail
  go_ret
  exact ⟨rfl, hk1.trans hw2⟩

end Go.Proofs.YtdgpminhkiilfaaGreatDoor
