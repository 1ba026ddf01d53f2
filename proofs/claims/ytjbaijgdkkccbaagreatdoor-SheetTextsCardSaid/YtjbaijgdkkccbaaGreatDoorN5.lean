/- Lines read one by one, each changing a state: the plain fold; committeeref2.lines over any function value. -/
import Derived.Test.YtjbaijgdkkccbaaGreatDoorT5
import Derived.Test.YtjbaijgdkkccbaaGreatDoorS1
import Derived.Test.YtjbaijgdkkccbaaGreatDoorZc
import Derived.Lib.CutLaws
import Derived.Test.YtjbaijgdkkccbaaGreatDoorT8
import Derived.Test.YtjbaijgdkkccbaaGreatDoorN3
namespace Go.Proofs.YtjbaijgdkkccbaaGreatDoor
open Go.RowKit

section
variable {S : Type}
def runG (step : S → ByteArray → Option S) (ended : Bool) : Nat → S → List ByteArray → Sum Nat S
  | _, st, [] => .inr st
  | i, st, r :: rs => match step st r with
    | none => .inl i
    | some st' => if ended = false ∧ rs = [] then .inl i else runG step ended (i + 1) st' rs
def runT (step : S → ByteArray → Option S) (i : Nat) (st : S) (s : ByteArray) : Sum Nat S := runG step (endedOf s) i st (linesOf s)
variable {step : S → ByteArray → Option S} {ended : Bool} {i : Nat} {st st' : S} {r s : ByteArray} {rs : List ByteArray} {k : Nat}
theorem runG_none (h : step st r = none) : runG step ended i st (r :: rs) = .inl i := by rw [runG, h]
theorem runG_last : runG step false i st [r] = .inl i := by
  rw [runG]
  cases step st r with
  | none => rfl
  | some q => simp
theorem runG_some (h : step st r = some st') (h2 : ¬ (ended = false ∧ rs = [])) : runG step ended i st (r :: rs) = runG step ended (i + 1) st' rs := by
  rw [runG, h]
  simp only [if_neg h2]
theorem runT_nil (h : s.size = 0) : runT step i st s = .inr st := by
  have h1 : endedOf s = true := by rw [endedOf, rows_nil h]; simp
  rw [runT, linesOf, h1, if_pos rfl, rows_nil h]; rfl
theorem runT_miss (h : s.size ≠ 0) (hm : Lib.indexB s nlB = -1) : runT step i st s = .inl i := by
  have h0 := rowsB_miss hm
  have h1 : endedOf s = false := by
    rw [endedOf, h0, decide_eq_false_iff_not]
    intro e
    have e2 : s = emptB := by simpa using e
    exact h (by rw [e2]; rfl)
  rw [runT, linesOf, h1, if_neg (by decide), h0, runG_last]
theorem runT_bad (hm : Lib.indexB s nlB = k) (hq : step st (s.extract 0 k) = none) : runT step i st s = .inl i := by
  obtain ⟨h1, h2⟩ := hit_lines hm
  rw [runT, h2, runG_none hq]
theorem runT_next (hm : Lib.indexB s nlB = k) (hq : step st (s.extract 0 k) = some st') : runT step i st s = runT step (i + 1) st' (s.extract (k + 1) s.size) := by
  obtain ⟨h1, h2⟩ := hit_lines hm
  rw [runT, h2, h1, runG_some hq]
  · rfl
  · rintro ⟨e1, e2⟩
    rw [linesOf, e1, if_neg (by decide)] at e2
    exact rowsB_ne nlB _ (by decide) e2
/-- The walk over lines up to line k. -/
def RunAt (step : S → ByteArray → Option S) (ended : Bool) (rows : List ByteArray) (st0 : S) (k : Nat) (st : S) : Prop := runG step ended 0 st0 rows = runG step ended k st (rows.drop k)
variable {rows : List ByteArray} {st0 : S}
theorem RunAt.zero : RunAt step ended rows st0 0 st0 := rfl
theorem RunAt.bad (h : RunAt step ended rows st0 k st) (hr : rows[k]? = some r) (hq : step st r = none) : runG step ended 0 st0 rows = .inl k := by
  rw [h, drop_at hr, runG_none hq]
theorem RunAt.last (h : RunAt step ended rows st0 k st) (hr : rows[k]? = some r) (he : ended = false) (hk : k + 1 = rows.length) : runG step ended 0 st0 rows = .inl k := by
  rw [h, drop_at hr, List.drop_of_length_le (by omega), he, runG_last]
theorem RunAt.next (h : RunAt step ended rows st0 k st) (hr : rows[k]? = some r) (hq : step st r = some st') (hn : ¬ (ended = false ∧ k + 1 = rows.length)) : RunAt step ended rows st0 (k + 1) st' := by
  have hk := (List.getElem?_eq_some_iff.1 hr).1
  rw [RunAt, h, drop_at hr, runG_some hq (fun e => hn ⟨e.1, by have := congrArg List.length e.2; rw [List.length_drop] at this; simp at this; omega⟩)]
theorem RunAt.ok (h : RunAt step ended rows st0 k st) (hk : rows.length ≤ k) : runG step ended 0 st0 rows = .inr st := by
  rw [h, List.drop_of_length_le hk]; rfl

def strLen : Value → Nat
  | .string s => s.size
  | _ => 0
theorem cutS_hit (x : ByteArray) (m : Int) (w : World) (hs : x.size ≤ 1000000) (hm : w.cell? ⟨0, 0, none⟩ = some (.int .i64 m)) (i : Nat) (h : Lib.indexB x nlB = i) :
    Calls Tryz.prog 188 #[.string x, .string nlB] w fun e w' => e = .returned (.tuple #[.string (x.extract 0 i), .string (x.extract (i + 1) x.size), .bool true]) ∧ ∃ n, w' = w.drewN n := by
  have h1 := Tryz.strings_Cut x nlB m w (by omega) hm
  obtain ⟨e1, e2, e3⟩ := Lib.cutB_hit x nlB i h
  rw [e1, e2, e3] at h1
  exact h1
theorem cutS_miss (x : ByteArray) (m : Int) (w : World) (hs : x.size ≤ 1000000) (hm : w.cell? ⟨0, 0, none⟩ = some (.int .i64 m)) (h : Lib.indexB x nlB = -1) :
    Calls Tryz.prog 188 #[.string x, .string nlB] w fun e w' => e = .returned (.tuple #[.string x, .string ByteArray.empty, .bool false]) ∧ ∃ n, w' = w.drewN n := by
  have h1 := Tryz.strings_Cut x nlB m w (by omega) hm
  obtain ⟨e1, e2, e3⟩ := Lib.cutB_miss x nlB h
  rw [e1, e2, e3] at h1
  exact h1
/-- What lines answers. -/
def LinesOut (step : S → ByteArray → Option S) (M : Nat → S → World → Prop) (F : Nat → Prop) (st0 : S) (s : ByteArray) (w : World) (e : Ending) (w' : World) : Prop :=
  ((∃ k : Nat, runT step 0 st0 s = .inl k ∧ e = .returned (.tuple #[.int .i64 (k : Int), .bool false])) ∨ (∃ (k : Nat) (st : S), k ≤ s.size ∧ runT step 0 st0 s = .inr st ∧ e = .returned (.tuple #[.int .i64 0, .bool true]) ∧ M k st w')) ∧ Kept F w w'
/-- What a function value that takes a line answers. -/
def TakesLine (P : Program) (g : FuncId) (caps : Array Value) (N : Nat) (step : S → ByteArray → Option S) (M : Nat → S → World → Prop) (F : Nat → Prop) (w0 : World) : Prop :=
  ∀ (k : Nat) (st : S) (r : ByteArray) (w : World), M k st w → Kept F w0 w → k + r.size ≤ N → Calls P g (#[.string r] ++ caps) w fun e w' => ((step st r = none ∧ e = .returned (.bool false)) ∨ (∃ st', step st r = some st' ∧ e = .returned (.bool true) ∧ M (k + 1) st' w')) ∧ Kept F w w'
set_option maxRecDepth 100000 in
set_option maxHeartbeats 12800000 in
theorem linesR_any (g : FuncId) (caps : Array Value) (eg : ∀ args w, (callFunc g args).run Tryz.prog w = .ok (.enter g args) w) (N : Nat) (step : S → ByteArray → Option S) (M : Nat → S → World → Prop) (F : Nat → Prop) (st0 : S) (s : ByteArray) (w : World)
    (hN : N ≤ 1000000) (hs : s.size ≤ N) (hd : ∀ k st wx n, M k st wx → M k st (wx.drewN n)) (hm : M 0 st0 w) (hg : ∃ m : Int, ∀ wx, Kept F w wx → wx.cell? ⟨0, 0, none⟩ = some (.int .i64 m)) (ht : TakesLine Tryz.prog g caps N step M F w) :
    Calls Tryz.prog 119 #[.string s, .func (.func g) #[] caps] w (LinesOut step M F st0 s w) := by
  obtain ⟨mx, hmx⟩ := hg
  have HT := Lib.hid ht
  have HX := Lib.hid hmx
  have HD := Lib.hid hd
  clear ht hmx hd
  go_enter Tryz.func119, Tryz.ntmps119
  go_wp2_with fail
  go_loopw [0, 6] (fun t i wr => ∃ (k : Nat) (st : S) (x : ByteArray), t = .string x ∧ i = .int .i64 k ∧ k + x.size ≤ s.size ∧ runT step 0 st0 s = runT step k st x ∧ M k st wr ∧ Kept F w wr) (fun t _ _ => strLen t)
  case atStart => exact ⟨0, st0, s, rfl, rfl, by omega, rfl, hm, Kept.refl _ _⟩
  case round =>
    obtain ⟨k, st, x, rfl, rfl, hkx, hrun, hM, hK⟩ := hrel
    obtain ⟨wo, rfl⟩ : ∃ wo : World, wo = wr := ⟨_, rfl⟩
    have hkb : k ≤ s.size := by omega
    by_cases h0 : x.size = 0
    · have hne : (x.toList == []) = true := by rw [toList_nil h0]; rfl
      have HF := Lib.hid (show runT step 0 st0 s = .inr st from by rw [hrun, runT_nil h0])
      have HM := Lib.hid hM
      clear hrun hM h0
      go_wp2_with fail
      go_ret2
      exact ⟨Or.inr ⟨k, st, hkb, HF.out, rfl, HM.out⟩, hK⟩
    · have hne : (x.toList == []) = false := by rw [beq_eq_false_iff_ne]; exact toList_ne h0
      have hc := HX.out _ hK
      rcases Lib.indexB_cases x nlB with hmiss | ⟨i, hi, hil⟩
      · have HC := Lib.hid (cutS_miss x mx wo (by omega) hc hmiss)
        have HF := Lib.hid (show runT step 0 st0 s = .inl k from by rw [hrun, runT_miss h0 hmiss])
        clear hrun hM hc hmiss
        go_wp2_with fail
        refine HC.out.mono ?_
        rintro e w4 ⟨rfl, nq, rfl⟩
        go_wp2_with fail
        go_ret2
        exact ⟨Or.inl ⟨k, HF.out, rfl⟩, hK.then_drewN _⟩
      · have hil2 : i + 1 ≤ x.size := hil
        have hz1 : (x.extract 0 i).size ≤ i := by rw [ByteArray.size_extract]; omega
        have hz2 : (x.extract (i + 1) x.size).size + i + 1 = x.size := by rw [ByteArray.size_extract]; omega
        have HC := Lib.hid (cutS_hit x mx wo (by omega) hc i hi)
        have HTK := Lib.hid (fun (nq : Nat) => HT.out k st (x.extract 0 i) (wo.drewN nq) (HD.out _ _ _ _ hM) (hK.then_drewN _) (by omega))
        have HB := Lib.hid (fun (h : step st (x.extract 0 i) = none) => (show runT step 0 st0 s = .inl k from by rw [hrun, runT_bad hi h]))
        have HN := Lib.hid (fun (st' : S) (h : step st (x.extract 0 i) = some st') => (show runT step 0 st0 s = runT step (k + 1) st' (x.extract (i + 1) x.size) from by rw [hrun, runT_next hi h]))
        obtain ⟨xa, hxa⟩ : ∃ z, z = x.extract 0 i := ⟨_, rfl⟩
        obtain ⟨xb, hxb⟩ : ∃ z, z = x.extract (i + 1) x.size := ⟨_, rfl⟩
        rw [← hxb] at hz2 HC HN
        rw [← hxa] at HC HTK HB HN
        clear hrun hM hc hi hil hxa hxb hz1 HT
        go_wp2_with fail
        refine HC.out.mono ?_
        rintro e w4 ⟨rfl, nq, rfl⟩
        go_wp2_with fail
        refine (HTK.out nq).mono ?_
        rintro e w5 ⟨⟨hno, rfl⟩ | ⟨st', hyes, rfl, hM5⟩, hK5⟩
        · have HF := Lib.hid (HB.out hno)
          have HK := Lib.hid ((hK.then_drewN nq).trans hK5)
          clear hno hK5 HB HN
          go_wp2_with fail
          go_ret2
          exact ⟨Or.inl ⟨k, HF.out, rfl⟩, HK.out⟩
        · have HF := Lib.hid (HN.out st' hyes)
          have HM5 := Lib.hid hM5
          have HK := Lib.hid ((hK.then_drewN nq).trans hK5)
          clear hyes hK5 hM5 HB HN
          go_wp2_with fail
          go_roundw
          case rel => exact ⟨k + 1, st', xb, rfl, by go_num, by omega, HF.out, HM5.out, HK.out⟩
          case measure => show xb.size < x.size; omega
end
end Go.Proofs.YtjbaijgdkkccbaaGreatDoor

/- kit.Lines at any text; ReadSheet. -/
namespace Go.Proofs.YtjbaijgdkkccbaaGreatDoor
open Go.RowKit

theorem ended_iff {s : ByteArray} {n : Nat} {x : ByteArray} (hn : (rowsB nlB s).length = n + 1) (hx : (rowsB nlB s)[n]? = some x) : endedOf s = decide (x = emptB) := by
  have h : (rowsB nlB s).getLast? = some x := by rw [List.getLast?_eq_getElem?, hn]; exact hx
  rw [endedOf, h]
  simp
theorem lines_row {s r : ByteArray} {k : Nat} (h : (linesOf s)[k]? = some r) : (rowsB nlB s)[k]? = some r := by
  unfold linesOf at h
  split at h
  · rw [List.getElem?_dropLast] at h
    split at h
    · exact h
    · exact nomatch h
  · exact h
theorem lines_le (s : ByteArray) : (linesOf s).length ≤ (rowsB nlB s).length := by
  unfold linesOf
  split
  · rw [List.length_dropLast]; omega
  · exact Nat.le_refl _
theorem linesT_any (s : ByteArray) (n m : Nat) (w : World) (hs : s.size ≤ 900000) (hn : (rowsB nlB s).length = n) (hm : (linesOf s).length = m) (hg : Glob w) :
    Calls Tryz.prog 117 #[.string s] w fun e w' => e = .returned (.tuple #[.slice (some ⟨w.heap.size, 0, none⟩) m n, .bool (endedOf s)]) ∧ w' = w.alloc (.cells ((rowsB nlB s).map Value.string).toArray 9) := by
  obtain ⟨mx, hmx⟩ := hg.most
  have hsp := Lib.hid (Tryz.strings_Split s nlB mx w (by omega) hmx (by decide))
  have hln := rowsB_len nlB s (by decide)
  rw [hn] at hln
  rw [← hln] at hsp
  have hle := rowsB_le nlB s (by decide)
  rw [hn] at hle
  have hsp2 := Lib.hid (show Calls Tryz.prog 121 #[.string s, .string nlB] w fun e w' => e = .returned (.slice (some ⟨w.heap.size, 0, none⟩) n n) ∧ w' = w.alloc (.cells ((rowsB nlB s).map Value.string).toArray 9) from hsp.out)
  obtain ⟨j, rfl⟩ : ∃ j, n = j + 1 := ⟨n - 1, by omega⟩
  obtain ⟨x, hx⟩ : ∃ x, (rowsB nlB s)[j]? = some x := ⟨_, List.getElem?_eq_getElem (by omega)⟩
  have hend := ended_iff hn hx
  obtain ⟨ob, hob⟩ : ∃ o : Obj, o = .cells ((rowsB nlB s).map Value.string).toArray 9 := ⟨_, rfl⟩
  have hblk := heap_at w ob _ rfl
  have c1 : (w.alloc ob).cell? ⟨w.heap.size, j, none⟩ = some (.string x) := cell_at (v := .string x) (i := j) (by rw [hob]; rw [hob] at hblk; exact hblk) (by simp [hx])
  rw [← hob] at hsp2 ⊢
  have hwr : IntKind.i64.wrap ((j : Int) + 1 - 1) = (j : Int) := by rw [show (j : Int) + 1 - 1 = j by omega]; exact IntWalk.i64_in _ (by omega)
  by_cases he : x = emptB
  · have hj : m = j := by rw [← hm, linesOf, hend, if_pos (by simp [he]), List.length_dropLast, hn]; rfl
    rw [hend, show decide (x = emptB) = true by simp [he], hj]
    subst he
    change (w.alloc ob).cell? ⟨w.heap.size, j, none⟩ = some (.string ⟨#[]⟩) at c1
    have hjs : j ≤ 1000000 := by omega
    clear hmx hblk hob hx hend hj hm hn hln hsp hg hle
    go_enter Tryz.func117, Tryz.ntmps117
    go_wp2_with fail
    refine hsp2.out.mono ?_
    rintro e w2 ⟨rfl, rfl⟩
    go_wp2_with fail
    go_ret2
    exact ⟨rfl, rfl⟩
  · have hj : m = j + 1 := by rw [← hm, linesOf, hend, if_neg (by simp [he]), hn]
    rw [hend, show decide (x = emptB) = false by simp [he], hj]
    have hd : (x.toList == []) = false := by
      rw [beq_eq_false_iff_ne]; exact toList_ne (fun h => he (empty_data h))
    have hjs : j ≤ 1000000 := by omega
    clear hmx hblk hob hx hend hj hm hn hln hsp hg hle he
    go_enter Tryz.func117, Tryz.ntmps117
    go_wp2_with fail
    refine hsp2.out.mono ?_
    rintro e w2 ⟨rfl, rfl⟩
    go_wp2_with fail
    go_ret2
    exact ⟨rfl, rfl⟩

/-- What reading a sheet leaves. -/
def SheetOut (s : ByteArray) (w : World) (e : Ending) (w' : World) : Prop := ∃ (a : Option Addr) (c : Nat), e = .returned (.tuple #[.slice a (outL s).length c, .int .i64 (outI s), .int .i64 (outE s)]) ∧ Sl RQst 6 (fun _ => True) w' a (outL s).length (outL s) ∧ All w w'
theorem SheetOut.bad {s : ByteArray} {w w' : World} {k : Nat} (h : readT 0 s = .inl k) (hk : All w w') : SheetOut s w (.returned (.tuple #[.slice none 0 0, .int .i64 (k : Int), .int .i64 9])) w' := by
  obtain ⟨h1, h2, h3⟩ := out_bad h
  refine ⟨none, 0, by rw [h1, h2, h3]; rfl, by rw [h1]; exact Sl.nil _ _ _ _ _, hk⟩
theorem SheetOut.no {s : ByteArray} {w w' : World} {xs : List Qst} (h : readT 0 s = .inr xs) (hf : ¬ sheetF xs = 0) (hk : All w w') : SheetOut s w (.returned (.tuple #[.slice none 0 0, .int .i64 0, .int .i64 (sheetF xs)])) w' := by
  obtain ⟨h1, h2, h3⟩ := out_ok h
  rw [if_neg hf] at h1
  refine ⟨none, 0, by rw [h1, h2, h3]; rfl, by rw [h1]; exact Sl.nil _ _ _ _ _, hk⟩
theorem SheetOut.yes {s : ByteArray} {w w' : World} {xs : List Qst} {a : Option Addr} {c : Nat} (h : readT 0 s = .inr xs) (hf : sheetF xs = 0) (hk : All w w') (hsl : Sl RQst 6 (fun _ => True) w' a xs.length xs) : SheetOut s w (.returned (.tuple #[.slice a xs.length c, .int .i64 0, .int .i64 0])) w' := by
  obtain ⟨h1, h2, h3⟩ := out_ok h
  rw [if_pos hf] at h1
  rw [hf] at h3
  refine ⟨a, c, by rw [h1, h2, h3], by rw [h1]; exact hsl, hk⟩
set_option maxRecDepth 100000 in
set_option maxHeartbeats 12800000 in
theorem readSheet_any (s : ByteArray) (w : World) (hs : s.size ≤ 900) (hg : Glob w) : Calls Tryz.prog 48 #[.string s] w (SheetOut s w) := by
  obtain ⟨n, hn⟩ : ∃ z, (rowsB nlB s).length = z := ⟨_, rfl⟩
  obtain ⟨m, hm⟩ : ∃ z, (linesOf s).length = z := ⟨_, rfl⟩
  obtain ⟨ed, hed⟩ : ∃ z, z = endedOf s := ⟨_, rfl⟩
  have hmn := lines_le s
  have hn9 := rowsB_le nlB s (by decide)
  have HS := Lib.hid (rowsB_size nlB s)
  have HL := Lib.hid (linesT_any s n m w (by omega) hn hm hg)
  rw [← hed] at HL
  rw [hn, hm] at hmn
  rw [hn] at hn9
  obtain ⟨ob, hob⟩ : ∃ o : Obj, o = .cells ((rowsB nlB s).map Value.string).toArray 9 := ⟨_, rfl⟩
  rw [← hob] at HL
  have hw1 : All w (w.alloc ob) := Kept.alloc _ _ _
  have HQ := Lib.hid (fun (wx : World) (k : All (w.alloc ob) wx) (r : ByteArray) (hr : r.size ≤ 900) => readQuestion_any r wx hr (hg.keep (hw1.trans k)))
  have hblk := heap_at w ob _ rfl
  have HC := Lib.hid (fun (wx : World) (k : All (w.alloc ob) wx) (i : Nat) (r : ByteArray) (hr : (linesOf s)[i]? = some r) => (show wx.cell? ⟨w.heap.size, i, none⟩ = some (.string r) from by
    have h1 := k.heap hblk trivial
    rw [hob] at h1
    exact cell_at (v := .string r) (i := i) h1 (by simp [lines_row hr])))
  have hd0 : decide ((200000 : Int) < (s.size : Int)) = false := by simp; omega
  have h0 := Lib.hid (ReadAt.zero ed (linesOf s))
  have hsz1 : (w.alloc ob).heap.size = w.heap.size + 1 := by simp
  obtain ⟨w1, hw1e⟩ : ∃ z, z = w.alloc ob := ⟨_, rfl⟩
  rw [← hw1e] at HL hw1 hblk hsz1 HQ HC
  have HW1 := Lib.hid hw1e
  have HS1 := Lib.hid hsz1
  have HWK := Lib.hid hw1
  clear hg hblk hob hw1e hsz1 hw1
  have HED := Lib.hid hed
  have HM := Lib.hid hm
  clear hed hn hm
  go_enter Tryz.func48, Tryz.ntmps48
  go_wp2_with fail
  refine HL.out.mono ?_
  rintro e w2 ⟨rfl, hh⟩
  obtain rfl := hh.symm
  clear hh
  go_wp2_with fail
  go_loopw [7, 23] (fun o i wr => ∃ (k : Nat) (xs : List Qst), k ≤ m ∧ i = .int .i64 k ∧ ReadAt ed (linesOf s) k xs ∧ Acc RQst 6 146 (fun _ => True) (w.heap.size + 1) wr o xs ∧ All w1 wr) (fun _ i _ => m - (intOf i).toNat)
  case atStart => exact ⟨0, [], Nat.zero_le _, rfl, h0.out, Acc.nil _ _ _ _ _ _, Kept.refl _ _⟩
  case round =>
    obtain ⟨k, xs, hk, rfl, hat, hacc, hwr⟩ := hrel
    obtain ⟨wo, rfl⟩ : ∃ wo : World, wo = wr := ⟨_, rfl⟩
    have hxl := hat.1
    have HXL := Lib.hid hxl
    by_cases hlt : k < m
    · obtain ⟨r, hr⟩ : ∃ r, (linesOf s)[k]? = some r := ⟨_, List.getElem?_eq_getElem (by rw [HM.out]; exact hlt)⟩
      have hrs : r.size ≤ 900 := by have := HS.out r (List.mem_of_getElem? (lines_row hr)); omega
      obtain ⟨av, cv, rfl, -⟩ := hacc.form
      have b0 := HC.out _ hwr k r hr
      have HR := Lib.hid (HQ.out _ hwr r hrs)
      have HAT := Lib.hid hat
      have HRR := Lib.hid hr
      have hwo : w.heap.size + 1 ≤ wo.heap.size := by rw [← HS1.out]; exact hwr.size
      have hm9 : m ≤ 1000 := by omega
      have hm1 : 1 ≤ m := by omega
      clear hat hr HC HL HQ HS hxl
      go_wp2_with fail
      refine HR.out.mono ?_
      rintro e w3 ⟨q, oa, oc, ok, rfl, hoc, hqs, hsl, hw3, hq⟩
      have hacc3 := hacc.keepAll RQst.ok hw3
      have hwb := hwr.trans hw3
      have hws := hw3.size
      have hal := hacc.lt
      clear hacc hw3 HR b0
      cases ok with
      | false =>
        have hbad := Lib.hid (HAT.out.bad HRR.out hq)
        have hfin := Lib.hid (HWK.out.trans hwb)
        clear hq hacc3 hsl hwb hwr
        go_wp2_with fail
        go_ret3
        exact SheetOut.bad (by rw [readT, ← HED.out]; exact hbad.out) (hfin.out.then_alloc _)
      | true =>
        have hq' := Lib.hid (show readQ r = some q from hq)
        clear hq
        by_cases hlast : ed = false ∧ k + 1 = m
        · obtain ⟨rfl, hlm⟩ := hlast
          have hbad := Lib.hid (HAT.out.last HRR.out rfl (by rw [HM.out]; exact hlm))
          have hkm : ((k : Int) == (m : Int) - 1) = true := by rw [beq_iff_eq]; omega
          clear hlm
          have hfin := Lib.hid (HWK.out.trans hwb)
          clear hacc3 hsl hwb hwr
          go_wp2_with fail
          go_ret3
          exact SheetOut.bad (by rw [readT, ← HED.out]; exact hbad.out) (hfin.out.then_alloc _)
        · have hnext := Lib.hid (HAT.out.next HRR.out hq'.out (fun e => hlast ⟨e.1, by have := e.2; rw [HM.out] at this; exact this⟩))
          have hkm : ed = true ∨ (ed = false ∧ ((k : Int) == (m : Int) - 1) = false) := by
            cases ed with
            | true => exact Or.inl rfl
            | false => exact Or.inr ⟨rfl, by rw [beq_eq_false_iff_ne]; intro e; exact hlast ⟨rfl, by omega⟩⟩
          have hsl4 := hsl.mono RStr.ok (G := fun z => True ∧ (Value.slice av xs.length cv).ownBlock ≠ some z) (fun z hz => ⟨trivial, fun e => by have := hal z e; omega⟩)
          clear hsl hlast hal
          rcases hkm with rfl | ⟨rfl, hkn⟩
          · go_wp2_with (at_builtin; refine wp_append1 RQst.ok _ rfl _ _ 26 rfl (w.heap.size + 1) 146 (.agg #[.string ⟨#[]⟩, .int .i64 0, .int .i64 0, .slice none 0 0, .bool false, .bool false]) 6 64 Tryz.underlying26 (by kernel_rfl) rfl (by decide) (fun _ => True) _ xs rfl ((hacc3.keepAll RQst.ok (Kept.alloc _ _ _)).keepAll RQst.ok (Kept.alloc _ _ _)) ⟨_, 0, none⟩ 1 [.string q.key, .int .i64 q.kind, .int .i64 q.most, .slice oa q.opts.length oc, .bool q.needed, .bool q.secret] rfl rfl (World.news_of_block (cs := #[.string q.key, .int .i64 q.kind, .int .i64 q.most, .slice oa q.opts.length oc, .bool q.needed, .bool q.secret]) (heap_at (w3.alloc (.cells #[.string q.key, .int .i64 q.kind, .int .i64 q.most, .slice oa q.opts.length oc, .bool q.needed, .bool q.secret] 146)) _ _ (by simp))) (by simp [Value.oneCell']) q ⟨oa, oc, rfl, hoc, hqs, (hsl4.keep RStr.ok (Kept.alloc _ _ _)).keep RStr.ok (Kept.alloc _ _ _)⟩ (by have := HXL.out; omega) (by decide) (by simp; omega) ?_)
            intro p' c' w9 hacc9 hg9 _
            have hk9 : All w1 w9 := ((hwb.then_alloc _).then_alloc _).grown hg9 (fun j hj => Or.inl (by have := (hacc3.lt j hj).1; rw [HS1.out]; simpa using this))
            go_wp2_with fail
            go_roundw
            case rel => exact ⟨k + 1, xs ++ [q], by omega, by go_num, hnext.out, hacc9, hk9⟩
            case measure => simp [intOf]; omega
          · go_wp2_with (at_builtin; refine wp_append1 RQst.ok _ rfl _ _ 26 rfl (w.heap.size + 1) 146 (.agg #[.string ⟨#[]⟩, .int .i64 0, .int .i64 0, .slice none 0 0, .bool false, .bool false]) 6 64 Tryz.underlying26 (by kernel_rfl) rfl (by decide) (fun _ => True) _ xs rfl ((hacc3.keepAll RQst.ok (Kept.alloc _ _ _)).keepAll RQst.ok (Kept.alloc _ _ _)) ⟨_, 0, none⟩ 1 [.string q.key, .int .i64 q.kind, .int .i64 q.most, .slice oa q.opts.length oc, .bool q.needed, .bool q.secret] rfl rfl (World.news_of_block (cs := #[.string q.key, .int .i64 q.kind, .int .i64 q.most, .slice oa q.opts.length oc, .bool q.needed, .bool q.secret]) (heap_at (w3.alloc (.cells #[.string q.key, .int .i64 q.kind, .int .i64 q.most, .slice oa q.opts.length oc, .bool q.needed, .bool q.secret] 146)) _ _ (by simp))) (by simp [Value.oneCell']) q ⟨oa, oc, rfl, hoc, hqs, (hsl4.keep RStr.ok (Kept.alloc _ _ _)).keep RStr.ok (Kept.alloc _ _ _)⟩ (by have := HXL.out; omega) (by decide) (by simp; omega) ?_)
            intro p' c' w9 hacc9 hg9 _
            have hk9 : All w1 w9 := ((hwb.then_alloc _).then_alloc _).grown hg9 (fun j hj => Or.inl (by have := (hacc3.lt j hj).1; rw [HS1.out]; simpa using this))
            go_wp2_with fail
            go_roundw
            case rel => exact ⟨k + 1, xs ++ [q], by omega, by go_num, hnext.out, hacc9, hk9⟩
            case measure => simp [intOf]; omega
    · have hk2 : k = m := by omega
      subst hk2
      obtain ⟨av, cv, hv, hsl⟩ := hacc.sl RQst.ok (by decide) (G := fun _ => True) (fun _ _ => trivial) (fun _ _ => trivial)
      have hok := Lib.hid (hat.ok (by rw [HM.out]; exact Nat.le_refl _))
      rw [hxl] at hv hsl
      have hml : k ≤ 1000000 := by omega
      have HCK := Lib.hid (checkSheet_any av k cv xs wo hsl hml)
      have hfin := HWK.out.trans hwr
      have HX := Lib.hid hxl
      subst hv
      clear hacc hat hxl HL HQ HC HS hn9 hmn
      go_wp2_with fail
      refine HCK.out.mono ?_
      rintro e w3 ⟨rfl, hw3⟩
      have hf3 := hfin.trans hw3
      have hsl3 := hsl.keep RQst.ok hw3
      clear hfin hsl hw3 hwr
      have hT : readT 0 s = .inr xs := by rw [readT, ← HED.out]; exact hok.out
      by_cases hf : sheetF xs = 0
      · have hyes := Lib.hid (SheetOut.yes (c := cv) hT hf hf3 (by rw [HX.out]; exact hsl3))
        rw [HX.out] at hyes
        rw [hf]
        clear hf hT hf3 hsl3
        go_wp2_with fail
        go_ret3
        exact hyes.out
      · have hno := Lib.hid (SheetOut.no hT hf hf3)
        obtain ⟨z, hz⟩ : ∃ z, z = sheetF xs := ⟨_, rfl⟩
        rw [← hz] at hno hf ⊢
        have hzf : (z == 0) = false := by rw [beq_eq_false_iff_ne]; exact hf
        have hzt : (z != 0) = true := by rw [bne, hzf]; rfl
        clear hT hf3 hsl3 hz
        go_wp2_with fail
        go_ret3
        exact hno.out
end Go.Proofs.YtjbaijgdkkccbaaGreatDoor

/- SheetRead. -/
namespace Go.Proofs.YtjbaijgdkkccbaaGreatDoor
open Go.RowKit

noncomputable def stepQ (xs : List Qst) (r : ByteArray) : Option (List Qst) := (readQ r).map fun q => xs ++ [q]
theorem runG_glue (ended : Bool) : ∀ (rows : List ByteArray) (i : Nat) (xs : List Qst), runG stepQ ended i xs rows = glue xs (readG ended i rows)
  | [], i, xs => by rw [runG, readG]; simp [glue]
  | r :: rs, i, xs => by
    cases hq : readQ r with
    | none => rw [runG_none (by rw [stepQ, hq]; rfl), readG_none hq]; rfl
    | some q =>
      have hst : stepQ xs r = some (xs ++ [q]) := by rw [stepQ, hq]; rfl
      by_cases h : ended = false ∧ rs = []
      · obtain ⟨rfl, rfl⟩ := h
        rw [runG_last, readG_last]; rfl
      · rw [runG_some hst h, readG_some hq h, runG_glue ended rs (i + 1) (xs ++ [q]), glue_glue]
theorem runT_read (s : ByteArray) : runT stepQ 0 [] s = readT 0 s := by rw [runT, runG_glue, glue_nil, readT]
set_option maxRecDepth 100000 in
set_option maxHeartbeats 12800000 in
theorem sheetRead_any (s : ByteArray) (w : World) (hs : s.size ≤ 900) (hg : GlobP w) : Calls Tryz.prog 49 #[.string s] w (SheetOut s w) := by
  obtain ⟨ob, hob⟩ : ∃ z, z = w.heap.size := ⟨_, rfl⟩
  obtain ⟨w1, hw1⟩ : ∃ z, z = w.alloc (.cells #[.slice none 0 0] 26) := ⟨_, rfl⟩
  have hall : All w w1 := by rw [hw1]; exact Kept.alloc _ _ _
  have hblk : w1.heap[ob]? = some (.cells #[.slice none 0 0] 26 (0, 0)) := by rw [hw1]; exact heap_at w _ _ hob
  have eg : ∀ args w, (callFunc 120 args).run Tryz.prog w = .ok (.enter 120 args) w := enters_of Tryz.func120 (by kernel_rfl) rfl
  obtain ⟨mx, hmx⟩ := hg.g.most
  have hml := lt_of_cell hmx
  dsimp only at hml
  have hlow : ∀ wx, Kept (fun z => z < ob) w1 wx → Kept (fun z => z < ob) w wx := fun wx k => (hall.mono (G := fun z => z < ob) (fun _ _ => trivial)).trans k
  have HL := Lib.hid (linesR_any 120 #[.pointer (some ⟨ob, 0, none⟩)] eg 900 stepQ (ShM ob) (fun z => z < ob) [] s w1 (by decide) hs
    (fun k st wx n ⟨v, h1, h2, h3⟩ => ⟨v, h1, h2.keepAll RQst.ok (Kept.drewN _ _ _), h3⟩) ⟨_, hblk, Acc.nil _ _ _ _ _ _, rfl⟩
    ⟨mx, fun wx k => (hlow wx k).cell hmx (by dsimp only; omega)⟩
    (fun k st r wx hM hK hkr => (sheetRead1_any r ob k st wx (by omega) (hg.low (hlow wx hK) (by omega)) (by omega) hM).mono (by
      rintro e w' ⟨⟨h1, rfl⟩ | ⟨q, h1, rfl, h2⟩, h3⟩
      · exact ⟨Or.inl ⟨by rw [stepQ, h1]; rfl, rfl⟩, h3⟩
      · exact ⟨Or.inr ⟨st ++ [q], by rw [stepQ, h1]; rfl, rfl, h2⟩, h3⟩)))
  have HT := Lib.hid (runT_read s)
  have HW := Lib.hid (fun (wx : World) (k : Kept (fun z => z < ob) w1 wx) => (show All w wx from ⟨(hlow wx k).os, (hlow wx k).tape, (hlow wx k).output, (hlow wx k).size, fun i hi _ => (hlow wx k).block i hi (by show i < ob; omega)⟩))
  have hd0 : decide ((200000 : Int) < (s.size : Int)) = false := by simp; omega
  have HO := Lib.hid hob
  have HW1 := Lib.hid hw1
  clear hall hblk hmx hml hlow hob hw1 hg eg
  go_enter Tryz.func49, Tryz.ntmps49
  go_upto_region 4 with fail
  simp only [← HO.out, ← HW1.out]
  go_wp2_with fail
  refine HL.out.mono ?_
  rintro e w2 ⟨⟨k, hk, rfl⟩ | ⟨k, xs, hks, hk, rfl, v, hv, hacc, hxl⟩, hK⟩
  · have hfin := Lib.hid (SheetOut.bad (by rw [← HT.out]; exact hk) (HW.out _ hK))
    clear hk hK
    go_wp2_with fail
    go_ret3
    exact hfin.out
  · have hT : readT 0 s = .inr xs := by rw [← HT.out]; exact hk
    obtain ⟨av, cv, hv2, hsl⟩ := hacc.sl RQst.ok (by decide) (G := fun _ => True) (fun _ _ => trivial) (fun _ _ => trivial)
    subst hv2
    have e0 := cell_at (i := 0) hv rfl
    have HXS := Lib.hid hxl
    have HCK := Lib.hid (sheetFault_any av _ cv xs w2 hsl (by omega))
    have HTT := Lib.hid hT
    have hfin := HW.out _ hK
    have HV := Lib.hid hv
    clear hacc hxl hk hT hv hK hks
    go_wp2_with fail
    refine HCK.out.mono ?_
    rintro e w3 ⟨rfl, hw3⟩
    have hf3 := hfin.trans hw3
    have hsl3 := hsl.keep RQst.ok hw3
    have e3 := cell_at (i := 0) (hw3.heap HV.out trivial) rfl
    clear hfin hsl hw3 e0
    by_cases hf : sheetF xs = 0
    · have hyes := Lib.hid (SheetOut.yes (c := cv) HTT.out hf hf3 hsl3)
      rw [hf]
      clear hf hf3 hsl3
      go_wp2_with fail
      go_ret3
      exact hyes.out
    · have hno := Lib.hid (SheetOut.no HTT.out hf hf3)
      obtain ⟨z, hz⟩ : ∃ z, z = sheetF xs := ⟨_, rfl⟩
      rw [← hz] at hno hf ⊢
      have hzf : (z == 0) = false := by rw [beq_eq_false_iff_ne]; exact hf
      have hzt : (z != 0) = true := by rw [bne, hzf]; rfl
      clear hf3 hsl3 hz e3
      go_wp2_with fail
      go_ret3
      exact hno.out
end Go.Proofs.YtjbaijgdkkccbaaGreatDoor
