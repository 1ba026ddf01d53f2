/- A strings.Builder that lies in a struct of lines: copyCheck, WriteString, WriteByte, String. -/
import Derived.Shelf.Strings.BuilderK
import Derived.Test.YtjbaijgdkkccbaaGreatDoorProg
import Derived.Test.YtjbaijgdkkccbaaGreatDoorZc
import Derived.Test.YtjbaijgdkkccbaaGreatDoorT5
import Derived.Test.YtjbaijgdkkccbaaGreatDoorSx
import Derived.Test.YtjbaijgdkkccbaaGreatDoorZn
import Derived.Laws.AppendOwnNone
namespace Go.Proofs.YtjbaijgdkkccbaaGreatDoor
open Go.RowKit

theorem builderL_size : (Tryz.prog.info? 168).map (·.size) = some 2 := by kernel_rfl
theorem builderL_lies : liesAt Tryz.prog Tryz.prog.depth 170 (2 / Tryz.prog.cellsOf 170) 0 168 1 = true := by kernel_rfl
theorem byteL_info : (Tryz.prog.info? 5).map (fun i => (i.zero, i.size, i.bytes)) = some (some (.int .u8 0), 1, 1) := by kernel_rfl
theorem byteL_cells : Tryz.prog.cellsOf 5 = 1 := by kernel_rfl

set_option maxHeartbeats 1000000 in
set_option maxRecDepth 100000 in
theorem copyL_used (b : Nat) (w : World) (h0 : w.cell? ⟨b, 0, none⟩ = some (.pointer (some ⟨b, 0, none⟩))) :
    Calls Tryz.prog 252 #[.pointer (some ⟨b, 0, none⟩)] w fun e w' => e = .returned (.tuple #[]) ∧ w' = w := by
  obtain ⟨j, hj, _⟩ := Option.map_eq_some_iff.1 builderL_size
  go_enter Tryz.func252, Tryz.ntmps252
  go_wp2
  rw [Lib.run_neq_ptr_same w _ Tryz.underlying165 hj]
  go_wp2
  go_end0
  exact ⟨rfl, rfl⟩
set_option maxHeartbeats 1000000 in
set_option maxRecDepth 100000 in
theorem copyL_fresh (b : Nat) (w : World) (h0 : w.cell? ⟨b, 0, none⟩ = some (.pointer none)) (hsh : w.shape? b = some (170, 2)) (hfz : w.frozen? ⟨b, 0, none⟩ = false) :
    Calls Tryz.prog 252 #[.pointer (some ⟨b, 0, none⟩)] w fun e w' => e = .returned (.tuple #[]) ∧ w' = w.setCell ⟨b, 0, none⟩ (.pointer (some ⟨b, 0, none⟩)) := by
  obtain ⟨j, hj, hjs⟩ := Option.map_eq_some_iff.1 builderL_size
  go_enter Tryz.func252, Tryz.ntmps252
  go_wp2
  rw [Lib.run_to_unsafe w ⟨b, 0, none⟩ Tryz.underlying165 Tryz.underlying330 hj (by rw [hjs]; decide) hsh (Nat.zero_lt_succ 1)]
  simp only [Result.andThen]
  rw [Oper.upon_value]
  go_wp2
  rw [run_callFunc_extern Tryz.func318 (by kernel_rfl) (by kernel_rfl) (by kernel_rfl) (e := Extern.AbiNoEscape.same) (by kernel_rfl)]
  rw [Lib.run_noEscape]
  simp only [Result.andThen]
  rw [Oper.upon_value]
  go_wp2
  rw [Lib.run_from_unsafe w ⟨b, 0, none⟩ Tryz.underlying330 Tryz.underlying165 hj hsh builderL_lies]
  simp only [Result.andThen]
  rw [Oper.upon_value]
  go_wp2
  go_end0
  exact ⟨rfl, rfl⟩
/-- What a call leaves of all that is not the builder's. -/
structure LnK (b : Nat) (w w' : World) : Prop where
  low : Below b w w'
  oth : Lib.OthersKept 5 (some b) w w'
theorem LnK.trans {b : Nat} {a w w' : World} (h : LnK b a w) (k : LnK b w w') : LnK b a w' := ⟨h.low.trans k.low, h.oth.trans k.oth⟩
theorem LnK.refl (b : Nat) (w : World) : LnK b w w := ⟨Below.refl b w, Lib.OthersKept.refl _ _ w⟩
theorem copyL_k (b : Nat) (bs : List Value) (w : World) (h : Lib.IsBuilderF 170 5 b b bs w) :
    Calls Tryz.prog 252 #[.pointer (some ⟨b, 0, none⟩)] w fun e w' => e = .returned (.tuple #[]) ∧ (Lib.BuilderAtF 170 5 b b (.pointer (some ⟨b, 0, none⟩)) bs w' ∧ LnK b w w') := by
  rcases h with h | h
  · refine (copyL_fresh b w h.cell0 h.shape h.frozen0).mono ?_
    rintro e w' ⟨rfl, rfl⟩
    exact ⟨rfl, h.used _, (Below.refl b w).setCell (p := ⟨b, 0, none⟩) h.1 _, (Lib.OthersKept.refl _ _ w).setCell ⟨b, 0, none⟩ rfl _⟩
  · refine (copyL_used b w h.cell0).mono ?_
    rintro e w' ⟨rfl, rfl⟩
    exact ⟨rfl, h, LnK.refl _ _⟩
set_option maxHeartbeats 2000000 in
set_option maxRecDepth 100000 in
theorem writeL_k (b : Nat) (bs : List Value) (s : ByteArray) (w : World) (h : Lib.IsBuilderF 170 5 b b bs w) (hlen : bs.length + s.size ≤ 140737488355328) (hBw : b ≤ w.heap.size) :
    Calls Tryz.prog 180 #[.pointer (some ⟨b, 0, none⟩), .string s] w fun e w' => e = .returned (.tuple #[.int .i64 s.size, .nilIface]) ∧ (Lib.BuilderAtF 170 5 b b (.pointer (some ⟨b, 0, none⟩)) (bs ++ Lib.strCells s) w' ∧ LnK b w w') := by
  obtain ⟨i0, hi, hz0, hz1, hz2⟩ := info_parts byteL_info
  go_enter Tryz.func180, Tryz.ntmps180
  go_wp2_with (go_at_call 252; refine (copyL_k b bs _ h).mono ?_)
  rintro e w1 ⟨rfl, h1, hb1, hk1⟩
  obtain ⟨hB, v, hbk, hown, hne⟩ := h1
  have c0 : w1.cell? ⟨b, 0, none⟩ = some (.pointer (some ⟨b, 0, none⟩)) := by rw [Lib.cell_of_heap hbk]; rfl
  have c1 : w1.cell? ⟨b, 1, none⟩ = some v := by rw [Lib.cell_of_heap hbk]; rfl
  go_wp2_with (at_builtin; refine Lib.wpList_append_own_stringF _ rfl _ _ 166 9 rfl b 5 i0 Tryz.underlying166 Tryz.underlying9 hi hz0 hz1 hz2 _ _ _ rfl hown s rfl ?c3 ?c4 ?c5 ?_)
  case c3 => unfold maxLen; omega
  case c4 => omega
  case c5 => have := hb1.size; omega
  intro v' w2 hown' hgrow _
  have hlt : b < w1.heap.size := by
    rcases Nat.lt_or_ge b w1.heap.size with h' | h'
    · exact h'
    · simp [Array.getElem?_eq_none h'] at hbk
  have hb2 : w2.heap[b]? = some (.cells #[.pointer (some ⟨b, 0, none⟩), v] 170 (0, 0)) := by
    rw [hgrow.block b hlt (fun e => hne e.symm)]
    exact hbk
  have d0 : w2.cell? ⟨b, 0, none⟩ = some (.pointer (some ⟨b, 0, none⟩)) := by rw [Lib.cell_of_heap hb2]; rfl
  have d1 : w2.cell? ⟨b, 1, none⟩ = some v := by rw [Lib.cell_of_heap hb2]; rfl
  have f1 : w2.frozen? ⟨b, 1, none⟩ = false := Lib.frozen_of_heap hb2 1
  obtain ⟨ao, n', cap, rfl⟩ : ∃ ao n' cap, v' = .slice ao n' cap := by
    rcases hown'.2 with ⟨hv, _⟩ | ⟨g, cap, cur, fz, hv, _⟩
    · exact ⟨_, _, _, hv⟩
    · exact ⟨_, _, _, hv⟩
  go_wp2
  go_ret2
  refine ⟨rfl, ?_, ?_, (hk1.grown hgrow (Lib.ownsRowF_kind hown)).setCell ⟨b, 1, none⟩ rfl _⟩
  · exact Lib.BuilderAtF.put (T := 170) (e := 5) hB hb2 (bs' := bs ++ Lib.strCells s) (by simpa [Lib.strCells_length] using hown') (by decide)
  · exact (hb1.grown hgrow (by have := hb1.size; omega) (fun k hk => (hown.lt k hk).1)).setCell (p := ⟨b, 1, none⟩) hB _
set_option maxHeartbeats 2000000 in
set_option maxRecDepth 100000 in
theorem writeByteL_k (b : Nat) (bs : List Value) (c : Int) (w : World) (h : Lib.IsBuilderF 170 5 b b bs w) (hlen : bs.length + 1 ≤ 140737488355328) (hBw : b ≤ w.heap.size) :
    Calls Tryz.prog 181 #[.pointer (some ⟨b, 0, none⟩), .int .u8 c] w fun e w' => e = .returned .nilIface ∧ (Lib.BuilderAtF 170 5 b b (.pointer (some ⟨b, 0, none⟩)) (bs ++ [.int .u8 c]) w' ∧ LnK b w w') := by
  obtain ⟨i0, hi, hz0, hz1, hz2⟩ := info_parts byteL_info
  go_enter Tryz.func181, Tryz.ntmps181
  go_wp2_with (go_at_call 252; refine (copyL_k b bs _ h).mono ?_)
  rintro e w1 ⟨rfl, h1, hb1, hk1⟩
  obtain ⟨hB, v, hbk, hown, hne⟩ := h1
  have c0 : w1.cell? ⟨b, 0, none⟩ = some (.pointer (some ⟨b, 0, none⟩)) := by rw [Lib.cell_of_heap hbk]; rfl
  have c1 : w1.cell? ⟨b, 1, none⟩ = some v := by rw [Lib.cell_of_heap hbk]; rfl
  go_wp2_with (at_builtin; refine wpList_append_ownF _ rfl _ _ 166 rfl b 5 i0 (.int .u8 0) 1 1 Tryz.underlying166 hi hz0 hz1 hz2 rfl (by decide) _ _ _ rfl (hown.alloc _) ⟨w1.heap.size, 0, none⟩ 1 1 [.int .u8 c] rfl rfl ?c1 ?c2 ?c3 ?c4 ?c5 ?_)
  case c1 =>
    intro j u hj
    match j, hj with
    | 0, hj => simp at hj; subst hj; simp [Addr.add]
  case c2 => intro u hu; simp at hu; subst hu; rfl
  case c3 => unfold maxLen; omega
  case c4 => omega
  case c5 => have := hb1.size; simp; omega
  intro v' w2 hown' hgrow _
  have hlt : b < w1.heap.size := by
    rcases Nat.lt_or_ge b w1.heap.size with h' | h'
    · exact h'
    · simp [Array.getElem?_eq_none h'] at hbk
  have hb2 : w2.heap[b]? = some (.cells #[.pointer (some ⟨b, 0, none⟩), v] 170 (0, 0)) := by
    rw [hgrow.block b (by simp; omega) (fun e => hne e.symm), Lib.alloc_old w1 _ b hlt]
    exact hbk
  have d0 : w2.cell? ⟨b, 0, none⟩ = some (.pointer (some ⟨b, 0, none⟩)) := by rw [Lib.cell_of_heap hb2]; rfl
  have d1 : w2.cell? ⟨b, 1, none⟩ = some v := by rw [Lib.cell_of_heap hb2]; rfl
  have f1 : w2.frozen? ⟨b, 1, none⟩ = false := Lib.frozen_of_heap hb2 1
  obtain ⟨g, cap, rfl⟩ : ∃ g cap, v' = .slice (some ⟨g, 0, none⟩) (bs.length + 1) cap := by
    rcases hown'.2 with ⟨_, h0⟩ | ⟨g, cap, cur, fz, hv, _⟩
    · omega
    · exact ⟨g, cap, hv⟩
  go_wp2
  go_ret
  refine ⟨rfl, ?_, ?_, ((hk1.alloc _).grown hgrow (Lib.ownsRowF_kind (hown.alloc _))).setCell ⟨b, 1, none⟩ rfl _⟩
  · exact Lib.BuilderAtF.put (T := 170) (e := 5) hB hb2 (bs' := bs ++ [.int .u8 c]) (by simpa using hown') (by decide)
  · exact ((hb1.alloc (by have := hb1.size; omega) _).grown hgrow (by have := hb1.size; simp; omega) (fun k hk => (hown.lt k hk).1)).setCell (p := ⟨b, 1, none⟩) hB _
set_option maxHeartbeats 2000000 in
set_option maxRecDepth 100000 in
theorem stringL_k (b : Nat) (l : List UInt8) (w : World) (h : Lib.IsBuilderF 170 5 b b (Lib.byteCells l) w) (h0 : l ≠ []) :
    Calls Tryz.prog 171 #[.pointer (some ⟨b, 0, none⟩)] w fun e w' => e = .returned (.string ⟨l.toArray⟩) ∧ LnK b w w' := by
  obtain ⟨p, hp, hAt⟩ : ∃ p, (p = .pointer none ∨ p = .pointer (some ⟨b, 0, none⟩)) ∧ Lib.BuilderAtF 170 5 b b p (Lib.byteCells l) w := by
    rcases h with h | h
    · exact ⟨_, .inl rfl, h⟩
    · exact ⟨_, .inr rfl, h⟩
  obtain ⟨hB, v, hbk, hown, hne⟩ := hAt
  have hl0 : l.length ≠ 0 := by simpa using h0
  rw [Lib.byteCells_length] at hown
  obtain ⟨g, cap, cur, fz, rfl, hbg, hg, hfz, hnc, hcm, hcs, htake⟩ : ∃ g cap cur fz, v = .slice (some ⟨g, 0, none⟩) l.length cap ∧ b ≤ g ∧ w.heap[g]? = some (.cells cur 5 fz) ∧ fz.2 ≤ l.length * 1 ∧ l.length ≤ cap ∧ cap ≤ maxLen ∧ cur.size = cap * 1 ∧ cur.toList.take (l.length * 1) = Lib.byteCells l := by
    rcases hown.2 with ⟨_, hz⟩ | ⟨g, cap, cur, fz, hv, r⟩
    · exact absurd hz hl0
    · exact ⟨g, cap, cur, fz, hv, r⟩
  have c1 : w.drew.cell? ⟨b, 1, none⟩ = some (.slice (some ⟨g, 0, none⟩) l.length cap) := by
    have : w.drew.heap[b]? = some (.cells #[p, .slice (some ⟨g, 0, none⟩) l.length cap] 170 (0, 0)) := hbk
    rw [Lib.cell_of_heap this]; rfl
  have hSD : (Builtin.unsafeSliceData_ #[166] 284 #[.slice (some ⟨g, 0, none⟩) l.length cap]).run Tryz.prog w.drew = .ok (.pointer (some ⟨g, 0, none⟩)) w.drew :=
    Lib.run_unsafeSliceData_row _ _ _ _ _ _ (by omega)
  have hUS : (Builtin.unsafeString_ #[284, 3] 9 #[.pointer (some ⟨g, 0, none⟩), .int .i64 l.length]).run Tryz.prog w.drew = .ok (.string ⟨l.toArray⟩) (w.drew.freeze ⟨g, 0, none⟩ l.length) := by
    refine Lib.run_unsafeString_row w.drew 284 3 9 5 Tryz.underlying284 byteL_cells g cur.size (by have hg' : w.drew.heap[g]? = some (.cells cur 5 fz) := hg; simp [World.shape?, hg']) l h0 (by omega) (by unfold maxLen at hcm; omega) ?_
    intro j x hx
    have := hown.cells (g := g) rfl j (.int .u8 x.toNat) (by simp [Lib.byteCells, hx])
    exact this
  have mixed : Tryz.prog.follows .mixedOrders = true := by kernel_rfl
  go_enter Tryz.func171, Tryz.ntmps171
  go_wp2
  go_region_o
  all_goals (go_wp2; go_ret; exact ⟨rfl, Lib.below_freeze (Below.drew (Below.refl b w)) (p := ⟨g, 0, none⟩) hbg _, ((Lib.OthersKept.refl _ _ w).drew).freeze ⟨g, 0, none⟩ _ ⟨cur, fz, hg⟩⟩)
set_option maxHeartbeats 2000000 in
set_option maxRecDepth 100000 in
theorem stringL_nil (b : Nat) (p : Value) (w : World) (hbk : w.heap[b]? = some (.cells #[p, .slice none 0 0] 170 (0, 0))) :
    Calls Tryz.prog 171 #[.pointer (some ⟨b, 0, none⟩)] w fun e w' => e = .returned (.string ⟨#[]⟩) ∧ LnK b w w' := by
  have hUS : (Builtin.unsafeString_ #[284, 3] 9 #[.pointer none, .int .i64 0]).run Tryz.prog w.drew = .ok (.string ⟨#[]⟩) w.drew := rfl
  have c1 : w.drew.cell? ⟨b, 1, none⟩ = some (.slice none 0 0) := by
    have : w.drew.heap[b]? = some (.cells #[p, .slice none 0 0] 170 (0, 0)) := hbk
    rw [Lib.cell_of_heap this]; rfl
  have hSD : (Builtin.unsafeSliceData_ #[166] 284 #[.slice none 0 0]).run Tryz.prog w.drew = .ok (.pointer none) w.drew := rfl
  have mixed : Tryz.prog.follows .mixedOrders = true := by kernel_rfl
  go_enter Tryz.func171, Tryz.ntmps171
  go_wp2
  go_region_o
  all_goals (go_wp2; go_ret; exact ⟨rfl, Below.drew (Below.refl b w), (Lib.OthersKept.refl _ _ w).drew⟩)
end Go.Proofs.YtjbaijgdkkccbaaGreatDoor

/- lines.add: a line of words more. -/
namespace Go.Proofs.YtjbaijgdkkccbaaGreatDoor
open Go.RowKit

/-- Block lb holds lines: the bytes l. -/
def Lns (w : World) (lb : Nat) (l : List UInt8) : Prop := (l = [] ∧ w.heap[lb]? = some (.cells #[.pointer none, .slice none 0 0] 170 (0, 0))) ∨ (l ≠ [] ∧ Lib.BuilderAtF 170 5 lb lb (.pointer (some ⟨lb, 0, none⟩)) (Lib.byteCells l) w)
theorem lnsAt_keep {T e : TypeId} {B b : Nat} {p : Value} {bs : List Value} {w w' : World} (h : Lib.BuilderAtF T e B b p bs w) (k : All w w') : Lib.BuilderAtF T e B b p bs w' := by
  obtain ⟨hB, v, hb, ho, hne⟩ := h
  refine ⟨hB, v, k.heap hb trivial, ⟨ho.1, ?_⟩, hne⟩
  rcases ho.2 with h0 | ⟨g, cap, cur, fz, hv, h1, h2, rest⟩
  · exact .inl h0
  · exact .inr ⟨g, cap, cur, fz, hv, h1, k.heap h2 trivial, rest⟩
theorem Lns.keep {w w' : World} {lb : Nat} {l : List UInt8} (h : Lns w lb l) (k : All w w') : Lns w' lb l := by
  rcases h with ⟨h1, h2⟩ | ⟨h1, h2⟩
  · exact .inl ⟨h1, k.heap h2 trivial⟩
  · exact .inr ⟨h1, lnsAt_keep h2 k⟩
theorem Lns.lt {w : World} {lb : Nat} {l : List UInt8} (h : Lns w lb l) : lb < w.heap.size := by
  rcases h with ⟨h1, h2⟩ | ⟨h1, h2⟩
  · exact (Array.getElem?_eq_some_iff.1 h2).1
  · exact h2.lt
theorem Lns.is {w : World} {lb : Nat} {l : List UInt8} (h : Lns w lb l) : Lib.IsBuilderF 170 5 lb lb (Lib.byteCells l) w := by
  rcases h with ⟨rfl, h2⟩ | ⟨h1, h2⟩
  · exact .inl ⟨Nat.le_refl _, _, h2, ⟨rfl, .inl ⟨rfl, rfl⟩⟩, by simp [Value.ownBlock]⟩
  · exact .inr h2
theorem LnK.all {lb : Nat} {w w' : World} (h : All w w') (hl : lb ≤ w.heap.size) : LnK lb w w' :=
  ⟨h.below hl (fun _ _ => trivial), fun _ _ hk _ _ => h.heap hk trivial⟩
theorem joinC_any (bk o n c : Nat) (ws : List ByteArray) (w : World) (h : ∀ (j : Nat) x, ws[j]? = some x → w.cell? ⟨bk, o + j, none⟩ = some (.string x)) (hb : bk < w.heap.size) (hn : ws.length = n) (hc : n ≤ c) (hN : n ≤ 100000) (hz : (lineW ws).length ≤ 1000000000) :
    Calls Tryz.prog 116 #[.slice (some ⟨bk, o, none⟩) n c, .string ⟨#[32]⟩] w fun e w' => e = .returned (.string ⟨(Lib.join (ws.map (·.data.toList)) [32]).toArray⟩) ∧ All w w' := by
  subst hn
  have hz2 : (Lib.join (ws.map (·.data.toList)) [32]).length + 1 = (lineW ws).length := by unfold lineW; simp
  refine (Tryz.strings_Join bk o c ws ⟨#[32]⟩ w h hb (by omega) hc (by show (Lib.join (ws.map (·.data.toList)) [32]).length ≤ _; omega)).mono ?_
  rintro e w' ⟨rfl, hw⟩
  exact ⟨rfl, Kept.of_below hw⟩
def AddPost (lb : Nat) (l : List UInt8) (w : World) (e : Ending) (w' : World) : Prop := e = .returned (.tuple #[]) ∧ Lns w' lb l ∧ LnK lb w w'
set_option maxRecDepth 100000 in
set_option maxHeartbeats 12800000 in
theorem addC_any (lb : Nat) (l : List UInt8) (b9 o n c : Nat) (ws : List ByteArray) (w : World) (h : Lns w lb l) (hs : ∀ (j : Nat) x, ws[j]? = some x → w.cell? ⟨b9, o + j, none⟩ = some (.string x)) (hb9 : b9 < w.heap.size) (hn : ws.length = n) (hc : n ≤ c) (hN : n ≤ 100000) (hz : l.length + (lineW ws).length ≤ 1000000000) :
    Calls Tryz.prog 113 #[.pointer (some ⟨lb, 0, none⟩), .slice (some ⟨b9, o, none⟩) n c] w (AddPost lb (l ++ lineW ws) w) := by
  obtain ⟨jw, hjw⟩ : ∃ z : ByteArray, z = ⟨(Lib.join (ws.map (·.data.toList)) [32]).toArray⟩ := ⟨_, rfl⟩
  have hjd : jw.data.toList ++ [10] = lineW ws := by rw [hjw]; simp [lineW]
  have HJ := Lib.hid (fun (wx : World) (k : All w wx) => (show Calls Tryz.prog 116 #[.slice (some ⟨b9, o, none⟩) n c, .string ⟨#[32]⟩] wx fun e w' => e = .returned (.string jw) ∧ All wx w' from by rw [hjw]; exact joinC_any b9 o n c ws wx (fun j x hx => k.cell (hs j x hx) trivial) (Nat.lt_of_lt_of_le hb9 k.size) hn hc hN (by omega)))
  have hjz : jw.size + 1 = (lineW ws).length := by rw [← hjd, size_list]; simp
  have HL := Lib.hid (fun (wx : World) (k : All w wx) => h.keep k)
  have HJD := Lib.hid hjd
  have hlt := h.lt
  clear hjw hs hb9 hn hc h hjd
  go_enter Tryz.func113, Tryz.ntmps113
  go_wp2_with fail
  refine wp_region_inv 5 (by kernel_rfl) (by kernel_rfl) (by kernel_rfl) (fun _ wx => All w wx)
    (DL [QIs (.pointer (some ⟨lb, 0, none⟩)), QIs (.pointer (some ⟨lb, 0, none⟩)), QIs (.pointer (some ⟨lb, 0, none⟩)), QIs (.slice (some ⟨b9, o, none⟩) n c), QIs (.string jw)]) All
    (DL.keep (by simp only [List.forall_mem_cons, List.not_mem_nil, false_implies, implies_true, and_true]; exact ⟨QIs.stays _, QIs.stays _, QIs.stays _, QIs.stays _, QIs.stays _⟩)) (Kept.drew _ _) ?_ ?_
  · intro i o t ho hd hi k' a' wx hk' hg hdf hts hoth hdeps
    have hz : i = 0 ∨ i = 1 ∨ i = 2 ∨ i = 3 ∨ i = 4 := by omega
    rcases hz with rfl | rfl | rfl | rfl | rfl
    · obtain rfl := Option.some.inj ho
      obtain rfl := Option.some.inj hd
      have e0 : a'.tmps.getD 0 undef = .pointer (some ⟨lb, 0, none⟩) := tmp_of ((hoth 0 (by decide)).trans rfl)
      clear hoth hdeps hdf hts ho
      refine wp_via (fun K' hK => ?_)
      have HK := Lib.hid hK
      clear hK
      go_simp
      exact HK.out _ _ ⟨_, rfl, hg, Kept.refl _ _, rfl⟩
    · obtain rfl := Option.some.inj ho
      obtain rfl := Option.some.inj hd
      have e0 : a'.tmps.getD 4 undef = .pointer (some ⟨lb, 0, none⟩) := hdeps 0 (by decide) 4 rfl
      clear hoth hdeps hdf hts ho
      refine wp_via (fun K' hK => ?_)
      have HK := Lib.hid hK
      clear hK
      go_simp
      exact HK.out _ _ ⟨_, rfl, hg, Kept.refl _ _, rfl⟩
    · obtain rfl := Option.some.inj ho
      obtain rfl := Option.some.inj hd
      have e0 : a'.tmps.getD 5 undef = .pointer (some ⟨lb, 0, none⟩) := hdeps 1 (by decide) 5 rfl
      clear hoth hdeps hdf hts ho
      refine wp_via (fun K' hK => ?_)
      have HK := Lib.hid hK
      clear hK
      go_simp
      exact HK.out _ _ ⟨_, rfl, hg, Kept.refl _ _, rfl⟩
    · obtain rfl := Option.some.inj ho
      obtain rfl := Option.some.inj hd
      have e0 : a'.tmps.getD 1 undef = .slice (some ⟨b9, o, none⟩) n c := tmp_of ((hoth 1 (by decide)).trans rfl)
      clear hoth hdeps hdf hts ho
      refine wp_via (fun K' hK => ?_)
      have HK := Lib.hid hK
      clear hK
      go_simp
      exact HK.out _ _ ⟨_, rfl, hg, Kept.refl _ _, rfl⟩
    · obtain rfl := Option.some.inj ho
      obtain rfl := Option.some.inj hd
      have e0 : a'.tmps.getD 7 undef = .slice (some ⟨b9, o, none⟩) n c := hdeps 3 (by decide) 7 rfl
      clear hoth hdeps hdf hts ho
      refine wp_via (fun K' hK => ?_)
      have HK := Lib.hid hK
      clear hK
      go_simp
      refine (HJ.out _ hg).mono ?_
      rintro e w2x ⟨rfl, hk2x⟩
      exact HK.out _ _ ⟨_, rfl, hg.trans hk2x, hk2x, rfl⟩
  · intro wx f hg hd
    have e6f : f 6 = .pointer (some ⟨lb, 0, none⟩) := hd 2 6 (by decide) rfl
    have e8f : f 8 = .string jw := hd 4 8 (by decide) rfl
    rw [show dsts _ 5 = [4, 5, 6, 7, 8] from by kernel_rfl]
    simp only [List.map_cons, List.map_nil, puts, Act.put, e6f, e8f, List.drop_succ_cons, List.drop_zero]
    generalize f 4 = f4
    generalize f 5 = f5
    generalize f 7 = f7
    clear hd e6f e8f f
    simp only [List.setIfInBounds_toArray, List.set_cons_zero, List.set_cons_succ]
    have hl0 := HL.out _ hg
    have hsz := hg.size
    have hK0 := LnK.all hg (Nat.le_of_lt hlt)
    clear hg
    go_wp2_with fail
    refine (writeL_k lb (Lib.byteCells l) jw _ hl0.is (by rw [Lib.byteCells_length]; omega) (by omega)).mono ?_
    rintro e w2 ⟨rfl, hb2, hk2⟩
    have hb2' : Lib.IsBuilderF 170 5 lb lb (Lib.byteCells (l ++ jw.data.toList)) w2 := by rw [Lib.byteCells_append, ← Lib.strCells_eq]; exact .inr hb2
    have hsz2 := hk2.low.size
    go_wp2_with fail
    refine (writeByteL_k lb (Lib.byteCells (l ++ jw.data.toList)) 10 _ hb2' (by rw [Lib.byteCells_length, List.length_append, ← size_list]; omega) (by omega)).mono ?_
    rintro e w3 ⟨rfl, hb3, hk3⟩
    have hfin := Lib.hid (show Lns w3 lb (l ++ lineW ws) from .inr ⟨by simp [lineW], by
      rw [← HJD.out, ← List.append_assoc, Lib.byteCells_append]
      exact hb3⟩)
    have hkf := Lib.hid (hK0.trans (hk2.trans hk3))
    clear hb2 hb2' hb3 hk2 hk3 hK0 hl0
    go_wp2_with fail
    go_end0
    exact ⟨rfl, hfin.out, hkf.out⟩
end Go.Proofs.YtjbaijgdkkccbaaGreatDoor

/- append of all strings of a slice to strings of the call's own. -/
namespace Go.Proofs.YtjbaijgdkkccbaaGreatDoor
open Go.RowKit

theorem Acc.pushStrs {T : TypeId} {B : Nat} {w w' : World} {v v' : Value} {xs ys : List ByteArray} {cells : List Value}
    (ho : w.ownsRow B T 1 v xs.length cells) (he : ∀ (i : Nat) (h : i < xs.length), (cells.drop (i * 1)).take 1 = [.string xs[i]] ∧ xs[i].size ≤ 1000000) (hy : ∀ y ∈ ys, y.size ≤ 1000000)
    (ho' : w'.ownsRow B T 1 v' (xs.length + ys.length) (cells ++ ys.map Value.string)) : Acc RStr 1 T (fun _ => False) B w' v' (xs ++ ys) := by
  have hcl := ho.1
  refine ⟨cells ++ ys.map Value.string, by simpa using ho', fun i hi => ?_⟩
  simp only [List.length_append] at hi
  by_cases hlt : i < xs.length
  · rw [List.drop_append_of_le_length (by omega), List.take_append_of_le_length (by simp; omega), List.getElem_append_left hlt]
    exact he i hlt
  · have e1 : (cells ++ ys.map Value.string).drop (i * 1) = (ys.map Value.string).drop (i - xs.length) := by
      rw [List.drop_append, List.drop_of_length_le (by omega), List.nil_append, hcl]
      congr 1
      omega
    rw [e1, List.getElem_append_right (by omega)]
    have hil : i - xs.length < ys.length := by omega
    refine ⟨?_, hy _ (List.getElem_mem hil)⟩
    rw [List.drop_eq_getElem_cons (by simp; omega), List.getElem_map, List.take_succ_cons, List.take_zero]
/-- append(s, x...) of strings, s of the call's own. -/
theorem wp_appendS {P : Program} (w : World) {ops : Array Oper} {rest : List Oper} {o : Oper} {a : Act} {Q : Exit → Act → World → Prop} (hgd : o.guard = none) (s x : Operand) (t : TypeId)
    (ho : o.op = .call { callee := .builtin .append, args := #[s, x], argTypes := #[t, t] })
    (B : Nat) (e : TypeId) (bytes : Nat) (ht : P.underlying t = some (.slice e)) (hi : (P.info? e).map (fun i => (i.zero, i.size, i.bytes)) = some (some (.string ⟨#[]⟩), 1, bytes))
    (v : Value) (xs : List ByteArray) (hs : a.eval s = v) (h1 : Acc RStr 1 e (fun _ => False) B w v xs) (p : Option Addr) (len cap : Nat) (ys : List ByteArray) (hx : a.eval x = .slice p len cap) (hsl : Sl RStr 1 (fun _ => True) w p len ys)
    (hb1 : xs.length + len ≤ 1000000) (hb2 : bytes ≤ 100000) (hbase : B ≤ w.heap.size)
    (h : ∀ p' c' w', Acc RStr 1 e (fun _ => False) B w' (.slice p' (xs.length + len) c') (xs ++ ys) → w.grownBy w' v.ownBlock → wpList P ops Q rest (a.put o.dst (.slice p' (xs.length + len) c')) w') :
    wpList P ops Q (o :: rest) a w := by
  obtain ⟨i0, hi, hz0, hz1, hz2⟩ := info_parts hi
  have h1' := h1
  obtain ⟨cells, hown, he⟩ := h1
  rcases Nat.eq_zero_or_pos len with h0 | h0
  · subst h0
    have hy : ys = [] := List.eq_nil_of_length_eq_zero hsl.len
    subst hy
    refine wpList_plain hgd fun K' hK => ?_
    have hr : (Builtin.append_ #[t, t] o.type #[v, .slice p 0 cap]).run P w = .ok v w := by
      rcases hown.2 with ⟨rfl, h00⟩ | ⟨g, cp, cur, rfl, _, _, hnc, _⟩
      · cases p <;> simp [Builtin.append_, run_underlying ht, sizeOf, typeInfo, hi, Builtin.lenOf, Builtin.firstCells, loadCells, loadCellsFrom]
      · cases p <;> simp [Builtin.append_, run_underlying ht, sizeOf, typeInfo, hi, Builtin.lenOf, Builtin.firstCells, hnc, loadCells, loadCellsFrom, storeCells]
    unfold Oper.wp execOp
    simp only [ho, resolve, invoke, builtin, Sem.run_bind, Sem.run_pure, Result.andThen_ok, List.map_toArray, List.map_cons, List.map_nil, hs, hx, hr]
    obtain ⟨p', c', rfl, -⟩ := h1'.form
    exact hK _ _ (h p' c' w (by simpa using h1') ⟨rfl, rfl, rfl, Nat.le_refl _, fun _ _ _ => rfl⟩)
  · obtain ⟨b, off, rfl, -, hcells⟩ := hsl.strs h0
    have hl := hsl.len
    have hsz : ∀ y ∈ ys, y.size ≤ 1000000 := fun y hy => by
      obtain ⟨i, hi, rfl⟩ := List.mem_iff_getElem.1 hy
      obtain ⟨b', off', vs, x, ha, hF, h1, h2, h3, h4, h5, h6⟩ := hsl.at (k := i) (by omega)
      rw [List.getElem?_eq_getElem hi] at h4
      rw [Option.some.inj h4]; exact h3.2
    have hnews : ∀ j u, (ys.map Value.string)[j]? = some u → w.cell? ((⟨b, off, none⟩ : Addr).add j) = some u := by
      intro j u hj
      rw [List.getElem?_map] at hj
      cases hjy : ys[j]? with
      | none => rw [hjy] at hj; cases hj
      | some y =>
        rw [hjy] at hj
        have hlt : j < len := by have := (List.getElem?_eq_some_iff.1 hjy).1; omega
        have hc := (hcells j hlt).1
        obtain rfl := Option.some.inj hj
        have hadd : (⟨b, off, none⟩ : Addr).add j = ⟨b, off + j, none⟩ := by
          unfold Addr.add; split
          · rename_i h0; rw [h0]; rfl
          · rfl
        rw [hadd, hc, List.getD_eq_getElem?_getD, hjy]; rfl
    refine wpList_append_own_at w hgd s x t ho B e i0 _ 1 bytes ht hi hz0 hz1 hz2 rfl (by decide) v xs.length cells hs hown ⟨b, off, none⟩ len cap (ys.map Value.string) hx (by simp; omega) hnews (by intro u hu; obtain ⟨y, -, rfl⟩ := List.mem_map.1 hu; rfl) (by unfold maxLen; omega) ?_ hbase ?_
    · calc (xs.length + len) * bytes ≤ 1000000 * 100000 := Nat.mul_le_mul hb1 hb2
        _ ≤ 140737488355328 := by decide
    · intro v' w' ho' hg _ hat
      have hp := Acc.pushStrs hown (fun i hi => he i hi) hsz (by rw [hl]; exact ho')
      obtain ⟨p', c', rfl, _⟩ := hp.form
      simp only [List.length_append, hl] at *
      exact h p' c' w' hp hg
/-- The cells of a row of strings of the call's own. -/
theorem Acc.strCells {T : TypeId} {F : Nat → Prop} {B : Nat} {w : World} {v : Value} {ss : List ByteArray} (h : Acc RStr 1 T F B w v ss) (h0 : ss ≠ []) :
    ∃ g c, v = .slice (some ⟨g, 0, none⟩) ss.length c ∧ ss.length ≤ c ∧ g < w.heap.size ∧ B ≤ g ∧ (∀ (j : Nat) x, ss[j]? = some x → w.cell? ⟨g, 0 + j, none⟩ = some (.string x)) := by
  obtain ⟨a, c, rfl, hc⟩ := h.form
  obtain ⟨a', c', hv, hsl⟩ := h.sl RStr.ok (by decide) (G := fun _ => True) (fun _ _ => trivial) (fun _ _ => trivial)
  injection hv with h1 h2 h3
  subst h1
  have hp := List.length_pos_iff.2 h0
  obtain ⟨b, off, rfl, -, hcells⟩ := hsl.strs hp
  have hob : (Value.slice (some ⟨b, off, none⟩) ss.length c).ownBlock = some b := rfl
  obtain ⟨hB, hlt⟩ := h.lt b hob
  obtain ⟨cells, hown, -⟩ := h
  have hoff : off = 0 := by
    rcases hown.2 with ⟨hv, -⟩ | ⟨g, cap, cur, hv, -⟩
    · exact (nomatch hv)
    · injection hv with h1 h2 h3; injection h1 with h1; injection h1
  subst hoff
  refine ⟨b, c, rfl, hc, hlt, hB, fun j x hx => ?_⟩
  have hj : j < ss.length := (List.getElem?_eq_some_iff.1 hx).1
  rw [(hcells j hj).1, List.getD_eq_getElem?_getD, hx]; rfl
end Go.Proofs.YtjbaijgdkkccbaaGreatDoor
