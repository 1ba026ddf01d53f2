/- Equal of ints, of strings and of lines: true of what reads alike. -/
import Derived.Test.YtllkemadaemjeaaGreatDoorDz
import Derived.Test.YtllkemadaemjeaaGreatDoorZc
import Derived.Sort.Grow
import Derived.Laws.AppendOwn
import Derived.Shelf.Abstract
import Derived.Test.YtllkemadaemjeaaGreatDoorDr
import Derived.Test.YtllkemadaemjeaaGreatDoorZm
import Derived.Test.YtllkemadaemjeaaGreatDoorYa
import Derived.Test.YtllkemadaemjeaaGreatDoorSd
import Derived.Shelf.SlSortCmp.InsertionK
import Derived.Test.YtllkemadaemjeaaGreatDoorSq
namespace Go.Proofs.YtllkemadaemjeaaGreatDoor
open Go.RowKit

def RLine : Rel (Int × Int) := fun _ _ vs x => vs = [.int .i64 x.1, .int .i64 x.2]
theorem RLine.ok : RLine.Ok := ⟨fun _ h => h, fun _ h => h, fun h => h⟩
set_option maxHeartbeats 800000 in
theorem equalI_same (a1 : Option Addr) (l1 c1 : Nat) (a2 : Option Addr) (l2 c2 : Nat) (cs : List Int) (w : World) (h1 : Sl RInt 1 (fun _ => True) w a1 l1 cs) (h2 : Sl RInt 1 (fun _ => True) w a2 l2 cs) (hl : l1 ≤ 1000000) :
    Calls Tryz.prog 49 #[.slice a1 l1 c1, .slice a2 l2 c2] w fun e w' => e = .returned (.bool true) ∧ All w w' := by
  have e1 := h1.len
  have e2 := h2.len
  have e3 : l2 = l1 := by omega
  subst e3
  clear e1 e2
  go_enter Tryz.func49, Tryz.ntmps49
  go_wp2_with fail
  go_loopw [13] (fun i wr => ∃ k : Nat, k ≤ l2 ∧ i = .int .i64 k ∧ All w wr) (fun i _ => l2 - (intOf i).toNat)
  case atStart => exact ⟨0, Nat.zero_le _, rfl, Kept.refl _ _⟩
  case round =>
    obtain ⟨k, hk, rfl, hall⟩ := hrel
    by_cases hlt : k < l2
    · obtain ⟨b1, o1, ha1, -, hc1⟩ := (h1.keep RInt.ok hall).ints (by omega)
      obtain ⟨b2, o2, ha2, -, hc2⟩ := (h2.keep RInt.ok hall).ints (by omega)
      have p0 := hc1 k hlt
      have q0 := hc2 k hlt
      generalize cs.getD k 0 = y at p0 q0
      subst ha1
      subst ha2
      clear h1 h2 hc1 hc2
      go_wp2_with fail
      go_quiet (fail)
      go_wp2_with fail
      go_roundw
      case rel => exact ⟨k + 1, by omega, by go_num, hall.then_drewN _⟩
      case measure => simp [intOf]; omega
    · have hd : decide ((k : Int) < (l2 : Int)) = false := by simp; omega
      go_wp2_with fail
      go_ret
      exact ⟨rfl, hall⟩


set_option maxHeartbeats 800000 in
theorem equalStr_same (a1 : Option Addr) (l1 c1 : Nat) (a2 : Option Addr) (l2 c2 : Nat) (cs : List ByteArray) (w : World) (h1 : Sl RStr 1 (fun _ => True) w a1 l1 cs) (h2 : Sl RStr 1 (fun _ => True) w a2 l2 cs) (hl : l1 ≤ 1000000) :
    Calls Tryz.prog 47 #[.slice a1 l1 c1, .slice a2 l2 c2] w fun e w' => e = .returned (.bool true) ∧ All w w' := by
  have e1 := h1.len
  have e2 := h2.len
  have e3 : l2 = l1 := by omega
  subst e3
  clear e1 e2
  go_enter Tryz.func47, Tryz.ntmps47
  go_wp2_with fail
  go_loopw [13] (fun i wr => ∃ k : Nat, k ≤ l2 ∧ i = .int .i64 k ∧ All w wr) (fun i _ => l2 - (intOf i).toNat)
  case atStart => exact ⟨0, Nat.zero_le _, rfl, Kept.refl _ _⟩
  case round =>
    obtain ⟨k, hk, rfl, hall⟩ := hrel
    by_cases hlt : k < l2
    · obtain ⟨b1, o1, y1, ha1, -, p0, -, hy1, -, -⟩ := (h1.keep RStr.ok hall).atStr hlt
      obtain ⟨b2, o2, y2, ha2, -, q0, -, hy2, -, -⟩ := (h2.keep RStr.ok hall).atStr hlt
      have hy : y2 = y1 := by rw [hy1] at hy2; injection hy2 with hy2; exact hy2.symm
      subst hy
      subst ha1
      subst ha2
      clear h1 h2 hy1 hy2
      go_wp2_with fail
      go_quiet (fail)
      go_wp2_with fail
      go_roundw
      case rel => exact ⟨k + 1, by omega, by go_num, hall.then_drewN _⟩
      case measure => simp [intOf]; omega
    · have hd : decide ((k : Int) < (l2 : Int)) = false := by simp; omega
      go_wp2_with fail
      go_ret
      exact ⟨rfl, hall⟩

theorem Sl.atLine {F : Nat → Prop} {w : World} {a : Option Addr} {len : Nat} {xs : List (Int × Int)} (h : Sl RLine 2 F w a len xs) {k : Nat} (hk : k < len) :
    ∃ b off x, a = some ⟨b, off, none⟩ ∧ F b ∧ w.cell? ⟨b, off + k * 2, none⟩ = some (.int .i64 x.1) ∧ w.cell? ⟨b, off + k * 2 + 1, none⟩ = some (.int .i64 x.2) ∧ xs[k]? = some x := by
  obtain ⟨b, off, vs, x, ha, hF, h1, h2, rfl, h4, h5, h6⟩ := h.at hk
  exact ⟨b, off, x, ha, hF, h2 0 (by simp), h2 1 (by simp), h4⟩

set_option maxHeartbeats 800000 in
theorem equalLine_same (a1 : Option Addr) (l1 c1 : Nat) (a2 : Option Addr) (l2 c2 : Nat) (cs : List (Int × Int)) (w : World) (h1 : Sl RLine 2 (fun _ => True) w a1 l1 cs) (h2 : Sl RLine 2 (fun _ => True) w a2 l2 cs) (hl : l1 ≤ 1000000) :
    Calls Tryz.prog 45 #[.slice a1 l1 c1, .slice a2 l2 c2] w fun e w' => e = .returned (.bool true) ∧ All w w' := by
  have e1 := h1.len
  have e2 := h2.len
  have e3 : l2 = l1 := by omega
  subst e3
  clear e1 e2
  go_enter Tryz.func45, Tryz.ntmps45
  go_wp2_with fail
  go_loopw [13] (fun i wr => ∃ k : Nat, k ≤ l2 ∧ i = .int .i64 k ∧ All w wr) (fun i _ => l2 - (intOf i).toNat)
  case atStart => exact ⟨0, Nat.zero_le _, rfl, Kept.refl _ _⟩
  case round =>
    obtain ⟨k, hk, rfl, hall⟩ := hrel
    by_cases hlt : k < l2
    · obtain ⟨b1, o1, y1, ha1, -, p0, p1, hy1⟩ := (h1.keep RLine.ok hall).atLine hlt
      obtain ⟨b2, o2, y2, ha2, -, q0, q1, hy2⟩ := (h2.keep RLine.ok hall).atLine hlt
      have hy : y2 = y1 := by rw [hy1] at hy2; injection hy2 with hy2; exact hy2.symm
      subst hy
      subst ha1
      subst ha2
      clear h1 h2 hy1 hy2
      go_wp2_with fail
      go_quiet (fail)
      go_wp2_with fail
      go_roundw
      case rel => exact ⟨k + 1, by omega, by go_num, hall.then_drewN _⟩
      case measure => simp [intOf]; omega
    · have hd : decide ((k : Int) < (l2 : Int)) = false := by simp; omega
      go_wp2_with fail
      go_ret
      exact ⟨rfl, hall⟩

end Go.Proofs.YtllkemadaemjeaaGreatDoor

/- What stays, with the count of what was drawn; append of a row of numbers to a slice of one. No program in sight. -/
namespace Go.Proofs.YtllkemadaemjeaaGreatDoor
open Go.RowKit Go.Sort

/-- Nothing that was there has changed, and no draw was taken back. -/
def AllD (w w' : World) : Prop := All w w' ∧ w.drawn ≤ w'.drawn
theorem AllD.refl (w : World) : AllD w w := ⟨Kept.refl _ _, Nat.le_refl _⟩
theorem AllD.trans {a b c : World} (h : AllD a b) (k : AllD b c) : AllD a c := ⟨h.1.trans k.1, Nat.le_trans h.2 k.2⟩
theorem AllD.then_drewN {a w : World} (h : AllD a w) (n : Nat) : AllD a (w.drewN n) := ⟨h.1.then_drewN n, Nat.le_trans h.2 (Nat.le_add_right _ _)⟩
theorem AllD.then_drew {a w : World} (h : AllD a w) : AllD a w.drew := ⟨h.1.then_drew, Nat.le_trans h.2 (Nat.le_add_right _ _)⟩
theorem AllD.then_alloc {a w : World} (h : AllD a w) (o : Obj) : AllD a (w.alloc o) := ⟨h.1.then_alloc o, h.2⟩
theorem AllD.grow {w w' : World} (h : AllD w w') : ∃ (q : Nat) (os : Array Obj), w' = Go.Sort.grow (w.drewN q) os := by
  obtain ⟨⟨h1, h2, h3, h4, h5⟩, h6⟩ := h
  refine ⟨w'.drawn - w.drawn, w'.heap.extract w.heap.size w'.heap.size, ?_⟩
  have e1 : w'.heap = w.heap ++ w'.heap.extract w.heap.size w'.heap.size := by
    apply Array.ext_getElem?
    intro i
    by_cases hi : i < w.heap.size
    · rw [Array.getElem?_append_left hi]
      exact h5 i hi trivial
    · rw [Array.getElem?_append_right (by omega), Array.getElem?_extract]
      by_cases hi2 : i < w'.heap.size
      · rw [if_pos (by omega)]
        congr 1
        omega
      · rw [if_neg (by omega), Array.getElem?_eq_none (by omega)]
  have e2 : w'.drawn = w.drawn + (w'.drawn - w.drawn) := by omega
  cases w' with
  | mk heap tape drawn os output =>
    cases w with
    | mk heap0 tape0 drawn0 os0 output0 =>
      simp only at *
      subst h1 h2 h3
      simp only [Go.Sort.grow, World.drewN, World.mk.injEq, true_and, and_true]
      exact ⟨e1, e2⟩

/-- append of all numbers of a slice to a slice of one number. -/
theorem wp_appendFresh {P : Program} (w : World) {ops : Array Oper} {rest : List Oper} {o : Oper} {a : Act} {Q : Exit → Act → World → Prop} (hgd : o.guard = none) (s x : Operand) (t : TypeId)
    (ho : o.op = .call { callee := .builtin .append, args := #[s, x], argTypes := #[t, t] })
    (e : TypeId) (bytes : Nat) (ht : P.underlying t = some (.slice e)) (hi : (P.info? e).map (fun i => (i.zero, i.size, i.bytes)) = some (some (.int .i64 0), 1, bytes))
    (b : Nat) (n : Int) (hs : a.eval s = .slice (some ⟨b, 0, none⟩) 1 1) (hc : w.cell? ⟨b, 0, none⟩ = some (.int .i64 n)) (p : Option Addr) (len cap : Nat) (ys : List Int) (hx : a.eval x = .slice p len cap) (hsl : Sl RInt 1 (fun _ => True) w p len ys)
    (hb1 : len ≤ 1000000) (hb2 : bytes ≤ 100000)
    (h : ∀ p' c' w', Sl RInt 1 (fun _ => True) w' p' (len + 1) (n :: ys) → AllD w w' → wpList P ops Q rest (a.put o.dst (.slice p' (len + 1) c')) w') :
    wpList P ops Q (o :: rest) a w := by
  obtain ⟨i0, hi, hz0, hz1, hz2⟩ := info_parts hi
  refine wpList_plain hgd fun K' hK => ?_
  unfold Oper.wp execOp
  simp only [ho, resolve, invoke, builtin, Sem.run_bind, Sem.run_pure, Result.andThen_ok, List.map_toArray, List.map_cons, List.map_nil, hs, hx]
  rcases Nat.eq_zero_or_pos len with h0 | h0
  · subst h0
    have hy : ys = [] := List.eq_nil_of_length_eq_zero hsl.len
    subst hy
    have hr : (Builtin.append_ #[t, t] o.type #[.slice (some ⟨b, 0, none⟩) 1 1, .slice p 0 cap]).run P w = .ok (.slice (some ⟨b, 0, none⟩) 1 1) w := by
      cases p <;> simp [Builtin.append_, run_underlying ht, sizeOf, typeInfo, hi, Builtin.lenOf, Builtin.firstCells, loadCells, loadCellsFrom, storeCells]
    rw [hr]
    refine hK _ _ (h _ _ _ ?_ (AllD.refl w))
    exact Sl.of_ints rfl trivial (fun i hi => by
      have : i = 0 := by omega
      subst this
      simpa using hc)
  · obtain ⟨b2, off, rfl, -, hcells⟩ := hsl.ints h0
    have hl := hsl.len
    have hnews : ∀ j u, (ys.map (Value.int .i64))[j]? = some u → w.cell? ((⟨b2, off, none⟩ : Addr).add j) = some u := by
      intro j u hj
      rw [List.getElem?_map] at hj
      cases hjy : ys[j]? with
      | none => rw [hjy] at hj; cases hj
      | some y =>
        rw [hjy] at hj
        have hlt : j < len := by have := (List.getElem?_eq_some_iff.1 hjy).1; omega
        have := hcells j hlt
        rw [List.getD_eq_getElem?_getD, hjy] at this
        injection hj with hj
        rw [← hj]
        by_cases hj0 : j = 0
        · subst hj0; simpa [Addr.add] using this
        · simpa [Addr.add, hj0] using this
    have holds : ∀ j u, [Value.int .i64 n][j]? = some u → w.cell? ((⟨b, 0, none⟩ : Addr).add j) = some u := by
      intro j u hj
      cases j with
      | zero => simp at hj; subst hj; exact hc
      | succ j => simp at hj
    have hr := run_append_grow (P := P) w t o.type e i0 (.int .i64 0) ht hi hz0 ⟨b, 0, none⟩ 1 1 [.int .i64 n] (by simp [hz1]) holds ⟨b2, off, none⟩ len cap (ys.map (Value.int .i64)) (by simp [hz1, hl]) hnews (by omega) (by omega) (growslice_fits (by omega) (by
      rw [hz2]
      calc (1 + len) * bytes ≤ 1000001 * 100000 := Nat.mul_le_mul (by omega) hb2
        _ ≤ 140737488355328 := by decide))
    rw [hr]
    have hblk := heap_alloc_new w.drew (.cells ([Value.int .i64 n].toArray ++ (ys.map (Value.int .i64)).toArray ++ Builtin.zeroCells (Value.int .i64 0).cells (grownCap w (1 + len) 1 e - (1 + len))) e)
    rw [Nat.add_comm 1 len] at hblk ⊢
    refine hK _ _ (h _ _ _ ?_ ((AllD.refl w).then_drew.then_alloc _))
    refine Sl.of_ints (by simp [hl]) trivial (fun i hi => cell_at hblk ?_)
    have hi' : i < (n :: ys).length := by simp [hl]; omega
    have e1 : ([Value.int .i64 n].toArray ++ (ys.map (Value.int .i64)).toArray) = ((n :: ys).map (Value.int .i64)).toArray := by simp
    rw [e1, Array.getElem?_append_left (by simpa using hi')]
    simp only [Nat.zero_add, List.getElem?_toArray, List.getElem?_map, List.getElem?_eq_getElem hi', Option.map_some]
    rw [List.getD_eq_getElem?_getD, List.getElem?_eq_getElem hi']
    rfl
end Go.Proofs.YtllkemadaemjeaaGreatDoor

/- slices.Compare of ints. -/
namespace Go.Proofs.YtllkemadaemjeaaGreatDoor
open Go.RowKit

def cmpZ (a b : Int) : Int := if a < b then -1 else if b < a then 1 else 0
theorem cmpZ_lt {a b : Int} (h : a < b) : cmpZ a b = -1 := if_pos h
theorem cmpZ_gt {a b : Int} (h : b < a) : cmpZ a b = 1 := by rw [cmpZ, if_neg (by omega), if_pos h]
theorem cmpZ_eq {a b : Int} (h : a = b) : cmpZ a b = 0 := by rw [cmpZ, if_neg (by omega), if_neg (by omega)]
def cmpLI : List Int → List Int → Int
  | [], [] => 0
  | [], _ :: _ => -1
  | _ :: _, [] => 1
  | a :: l, b :: m => if cmpZ a b ≠ 0 then cmpZ a b else cmpLI l m
theorem isNaNZ_any (a : Int) (w : World) : Calls Tryz.prog 185 #[.int .i64 a] w fun e w' => e = .returned (.bool false) ∧ w = w' := by
  have hn : (a != a) = false := by simp
  go_enter Tryz.func185, Tryz.ntmps185
  go_wp2_with fail
  go_ret
  exact ⟨rfl, rfl⟩
theorem compareZ_any (a b : Int) (w : World) : Calls Tryz.prog 148 #[.int .i64 a, .int .i64 b] w fun e w' => e = .returned (.int .i64 (cmpZ a b)) ∧ w = w' := by
  rcases Int.lt_trichotomy a b with h | h | h
  · have HF := Lib.hid (cmpZ_lt h)
    have d1 : decide (a < b) = true := by simpa using h
    go_enter Tryz.func148, Tryz.ntmps148
    go_wp2_with (go_at_call 185; refine (isNaNZ_any _ _).mono ?_; rintro e w' ⟨rfl, rfl⟩)
    go_ret
    exact ⟨ret_int' HF.out.symm, rfl⟩
  · have HF := Lib.hid (cmpZ_eq h)
    subst h
    have d1 : decide (a < a) = false := by simp
    go_enter Tryz.func148, Tryz.ntmps148
    go_wp2_with (go_at_call 185; refine (isNaNZ_any _ _).mono ?_; rintro e w' ⟨rfl, rfl⟩)
    go_ret
    exact ⟨ret_int' HF.out.symm, rfl⟩
  · have HF := Lib.hid (cmpZ_gt h)
    have d1 : decide (a < b) = false := by simp; omega
    have d2 : decide (b < a) = true := by simpa using h
    go_enter Tryz.func148, Tryz.ntmps148
    go_wp2_with (go_at_call 185; refine (isNaNZ_any _ _).mono ?_; rintro e w' ⟨rfl, rfl⟩)
    go_ret
    exact ⟨ret_int' HF.out.symm, rfl⟩

theorem cmpLI_step {xs ys : List Int} {k : Nat} (h1 : k < xs.length) (h2 : k < ys.length) : cmpLI (xs.drop k) (ys.drop k) = if cmpZ (xs.getD k 0) (ys.getD k 0) ≠ 0 then cmpZ (xs.getD k 0) (ys.getD k 0) else cmpLI (xs.drop (k + 1)) (ys.drop (k + 1)) := by
  rw [List.drop_eq_getElem_cons h1, List.drop_eq_getElem_cons h2, cmpLI]
  simp [List.getD_eq_getElem?_getD, h1, h2]
theorem cmpLI_short {xs ys : List Int} {k : Nat} (h1 : k < xs.length) (h2 : ys.length ≤ k) : cmpLI (xs.drop k) (ys.drop k) = 1 := by
  rw [List.drop_eq_getElem_cons h1, List.drop_of_length_le h2]; rfl
theorem cmpLI_end {xs ys : List Int} {k : Nat} (h1 : xs.length ≤ k) (h2 : k = xs.length) : cmpLI (xs.drop k) (ys.drop k) = if xs.length < ys.length then -1 else 0 := by
  rw [List.drop_of_length_le h1]
  by_cases h : xs.length < ys.length
  · rw [if_pos h, List.drop_eq_getElem_cons (show k < ys.length by omega)]; rfl
  · rw [if_neg h, List.drop_of_length_le (show ys.length ≤ k by omega)]; rfl

set_option maxHeartbeats 1600000 in
theorem compareL_any (a1 : Option Addr) (l1 c1 : Nat) (a2 : Option Addr) (l2 c2 : Nat) (xs ys : List Int) (w : World) (h1 : Sl RInt 1 (fun _ => True) w a1 l1 xs) (h2 : Sl RInt 1 (fun _ => True) w a2 l2 ys) (hl1 : l1 ≤ 1000000) (hl2 : l2 ≤ 1000000) :
    Calls Tryz.prog 96 #[.slice a1 l1 c1, .slice a2 l2 c2] w fun e w' => e = .returned (.int .i64 (cmpLI xs ys)) ∧ AllD w w' := by
  have H1 := Lib.hid h1.len
  have H2 := Lib.hid h2.len
  obtain ⟨cv, hcv⟩ : ∃ c, c = cmpLI xs ys := ⟨_, rfl⟩
  have HCV := Lib.hid hcv
  rw [← hcv]
  have hst := Lib.hid (show cv = cmpLI (xs.drop 0) (ys.drop 0) by rw [hcv]; rfl)
  clear hcv
  go_enter Tryz.func96, Tryz.ntmps96
  go_wp2_with fail
  go_loopw [11] (fun i wr => ∃ k : Nat, k ≤ l1 ∧ i = .int .i64 k ∧ Hid (cv = cmpLI (xs.drop k) (ys.drop k)) ∧ AllD w wr) (fun i _ => l1 - (intOf i).toNat)
  case atStart => exact ⟨0, Nat.zero_le _, rfl, hst, AllD.refl _⟩
  case round =>
    obtain ⟨k, hk, rfl, HK, hall⟩ := hrel
    by_cases hlt : k < l1
    · obtain ⟨b1, o1, ha1, -, hc1⟩ := (h1.keep RInt.ok hall.1).ints (by omega)
      have p0 := hc1 k hlt
      obtain ⟨y1, hy1⟩ : ∃ y, y = xs.getD k 0 := ⟨_, rfl⟩
      rw [← hy1] at p0
      subst ha1
      by_cases hlt2 : k < l2
      · obtain ⟨b2, o2, ha2, -, hc2⟩ := (h2.keep RInt.ok hall.1).ints (by omega)
        have q0 := hc2 k hlt2
        obtain ⟨y2, hy2⟩ : ∃ y, y = ys.getD k 0 := ⟨_, rfl⟩
        rw [← hy2] at q0
        subst ha2
        have hge : decide ((l2 : Int) ≤ (k : Int)) = false := by simp; omega
        have HS := Lib.hid (show cv = if cmpZ y1 y2 ≠ 0 then cmpZ y1 y2 else cmpLI (xs.drop (k + 1)) (ys.drop (k + 1)) from by rw [HK.out, cmpLI_step (by have := H1.out; omega) (by have := H2.out; omega), ← hy1, ← hy2])
        obtain ⟨cz, hcz⟩ : ∃ c, c = cmpZ y1 y2 := ⟨_, rfl⟩
        rw [← hcz] at HS
        have HCZ := Lib.hid hcz
        clear hc1 hc2 hy1 hy2 h1 h2 hcz
        by_cases hz : cz = 0
        · have hne : (cz != 0) = false := by simp [hz]
          have HN := Lib.hid (show cv = cmpLI (xs.drop (k + 1)) (ys.drop (k + 1)) from by rw [HS.out, if_neg (by simpa using hz)])
          clear hz
          go_wp2_with fail
          refine (compareZ_any y1 y2 _).mono ?_
          rintro e w' ⟨rfl, hh⟩
          subst hh
          rw [← HCZ.out]
          go_wp2_with fail
          go_roundw
          case rel => exact ⟨k + 1, by omega, by go_num, HN, hall⟩
          case measure => simp [intOf]; omega
        · have hne : (cz != 0) = true := by simpa using hz
          have HN := Lib.hid (show cv = cz from by rw [HS.out, if_pos hz])
          clear hz
          go_wp2_with fail
          refine (compareZ_any y1 y2 _).mono ?_
          rintro e w' ⟨rfl, hh⟩
          subst hh
          rw [← HCZ.out]
          go_wp2_with fail
          go_ret
          exact ⟨ret_int' HN.out.symm, hall⟩
      · have hge : decide ((l2 : Int) ≤ (k : Int)) = true := by simp; omega
        have HN := Lib.hid (show cv = 1 from by rw [HK.out]; exact cmpLI_short (by have := H1.out; omega) (by have := H2.out; omega))
        clear hc1 hy1 h1 h2
        go_wp2_with fail
        go_ret
        exact ⟨ret_int' HN.out.symm, hall⟩
    · have hd : decide ((k : Int) < (l1 : Int)) = false := by simp; omega
      have HN := Lib.hid (show cv = if l1 < l2 then -1 else 0 from by rw [HK.out, cmpLI_end (by have := H1.out; omega) (by have := H1.out; omega), H1.out, H2.out])
      clear h1 h2
      by_cases hll : l1 < l2
      · have hlb : decide ((l1 : Int) < (l2 : Int)) = true := by simp; omega
        have HN2 := Lib.hid (show cv = -1 from by rw [HN.out, if_pos hll])
        go_wp2_with fail
        go_ret
        exact ⟨ret_int' HN2.out.symm, hall⟩
      · have hlb : decide ((l1 : Int) < (l2 : Int)) = false := by simp; omega
        have HN2 := Lib.hid (show cv = 0 from by rw [HN.out, if_neg hll])
        go_wp2_with fail
        go_ret
        exact ⟨ret_int' HN2.out.symm, hall⟩
end Go.Proofs.YtllkemadaemjeaaGreatDoor

/- Threads: a paper's posts by whom they answer, their ways up; what the walk down writes is what a sort by ways gives. No program in sight. -/
namespace Go.Proofs.YtllkemadaemjeaaGreatDoor
open Go.RowKit

/-- The posts of a paper that answer t. -/
def kidsL (xs : List Post6) (key : ByteArray) (t : Int) : List Int := (xs.filter fun x => decide (x.paper = key) && decide (x.ans = t)).map Post6.no
def kidsN (xs : List Post6) (key : ByteArray) (t : Nat) : List Nat := (kidsL xs key (t : Int)).map Int.toNat
/-- What a post answers. -/
def upF (xs : List Post6) (n : Nat) : Nat := match xs[n - 1]? with | some x => x.ans.toNat | none => 0
def wayU (xs : List Post6) : Nat → Nat → List Nat
  | 0, _ => []
  | f + 1, n => if n = 0 then [] else wayU xs f (upF xs n) ++ [n]
/-- The way from the top to a post. -/
def wayN (xs : List Post6) (n : Nat) : List Nat := wayU xs n n
def wayZ (xs : List Post6) (n : Int) : List Int := (wayN xs n.toNat).map fun k : Nat => (k : Int)
def nosL (xs : List Post6) (key : ByteArray) : List Int := (xs.filter fun x => decide (x.paper = key)).map Post6.no
def threadN (xs : List Post6) (key : ByteArray) : List (Nat × Nat) := thr (kidsN xs key) (xs.length + 1) 0 0
def pairZ (p : Nat × Nat) : Int × Int := ((p.1 : Int), (p.2 : Int))
def threadL (xs : List Post6) (key : ByteArray) : List (Int × Int) := (threadN xs key).map pairZ

theorem kidsL_snoc (xs : List Post6) (x : Post6) (key : ByteArray) (t : Int) : kidsL (xs ++ [x]) key t = kidsL xs key t ++ (if x.paper = key ∧ x.ans = t then [x.no] else []) := by
  unfold kidsL
  rw [List.filter_append, List.map_append]
  congr 1
  by_cases h : x.paper = key ∧ x.ans = t
  · simp [h.1, h.2]
  · rw [if_neg h]
    have : (decide (x.paper = key) && decide (x.ans = t)) = false := by simpa using h
    simp [this]
theorem nosL_snoc (xs : List Post6) (x : Post6) (key : ByteArray) : nosL (xs ++ [x]) key = nosL xs key ++ (if x.paper = key then [x.no] else []) := by
  unfold nosL
  rw [List.filter_append, List.map_append]
  congr 1
  by_cases h : x.paper = key <;> simp [h]
theorem kidsL_len (xs : List Post6) (key : ByteArray) (t : Int) : (kidsL xs key t).length ≤ xs.length := by
  unfold kidsL
  rw [List.length_map]
  exact List.length_filter_le _ _
theorem nosL_len (xs : List Post6) (key : ByteArray) : (nosL xs key).length ≤ xs.length := by
  unfold nosL
  rw [List.length_map]
  exact List.length_filter_le _ _

/-- Two lists that rise and hold the same are one. -/
theorem strict_eq {α : Type} {R : α → α → Prop} (hR : ∀ a b, R a b → ¬ R b a) : ∀ {l k : List α}, l.Pairwise R → k.Pairwise R → (∀ a, a ∈ l ↔ a ∈ k) → l = k
  | [], [], _, _, _ => rfl
  | [], y :: k, _, _, h => absurd ((h y).2 (by simp)) (by simp)
  | x :: l, [], _, _, h => absurd ((h x).1 (by simp)) (by simp)
  | x :: l, y :: k, h1, h2, h => by
    obtain ⟨a1, a2⟩ := List.pairwise_cons.1 h1
    obtain ⟨b1, b2⟩ := List.pairwise_cons.1 h2
    have e : x = y := by
      rcases List.mem_cons.1 ((h x).1 (by simp)) with e | e
      · exact e
      · rcases List.mem_cons.1 ((h y).2 (by simp)) with e' | e'
        · exact e'.symm
        · exact absurd (a1 y e') (hR _ _ (b1 x e))
    subst e
    have hx : x ∉ l := fun hm => hR _ _ (a1 x hm) (a1 x hm)
    have hy : x ∉ k := fun hm => hR _ _ (b1 x hm) (b1 x hm)
    rw [strict_eq hR a2 b2 (fun a => ⟨fun hm => by
      rcases List.mem_cons.1 ((h a).1 (List.mem_cons_of_mem _ hm)) with e | e
      · subst e; exact absurd hm hx
      · exact e, fun hm => by
      rcases List.mem_cons.1 ((h a).2 (List.mem_cons_of_mem _ hm)) with e | e
      · subst e; exact absurd hm hy
      · exact e⟩)]

theorem cmpLI_lex : ∀ a b : List Nat, cmpLI (a.map fun k : Nat => (k : Int)) (b.map fun k : Nat => (k : Int)) ≤ 0 ↔ lexL b a = false
  | [], [] => by simp [cmpLI, lexL]
  | [], _ :: _ => by simp [cmpLI, lexL]
  | _ :: _, [] => by simp [cmpLI, lexL]
  | x :: a, y :: b => by
    have ih := cmpLI_lex a b
    simp only [List.map_cons, cmpLI, lexL]
    rcases Nat.lt_trichotomy x y with h | h | h
    · rw [cmpZ_lt (by omega)]
      have h1 : ¬ y < x := by omega
      have h2 : ¬ y = x := by omega
      simp [h1, h2]
    · subst h
      rw [cmpZ_eq rfl]
      simpa using ih
    · rw [cmpZ_gt (by omega)]
      simp [h]
theorem cmpLI_zero : ∀ a b : List Int, cmpLI a b = 0 ↔ a = b
  | [], [] => by simp [cmpLI]
  | [], _ :: _ => by simp [cmpLI]
  | _ :: _, [] => by simp [cmpLI]
  | x :: a, y :: b => by
    have ih := cmpLI_zero a b
    simp only [cmpLI]
    rcases Int.lt_trichotomy x y with h | h | h
    · rw [cmpZ_lt h]
      simp
      omega
    · subst h
      rw [cmpZ_eq rfl]
      simpa using ih
    · rw [cmpZ_gt h]
      simp
      omega

section
variable {b : Board4} {xs : List Post6} {key : ByteArray}
theorem upF_lt (h : postsF b xs = 0) {n : Nat} (hn : 0 < n) : upF xs n < n := by
  unfold upF
  split
  · rename_i x hx
    by_cases h0 : x.ans = 0
    · omega
    · obtain ⟨q, y, h1, h2, -, -⟩ := sound_ans h hx h0
      omega
  · exact hn
theorem wayU_enough (h : postsF b xs = 0) : ∀ (m n f : Nat), n ≤ m → n ≤ f → wayU xs f n = wayU xs n n
  | m, 0, f, _, _ => by cases f <;> simp [wayU]
  | 0, n + 1, f, hm, _ => absurd hm (by omega)
  | m + 1, n + 1, 0, _, hf => absurd hf (by omega)
  | m + 1, n + 1, f + 1, hm, hf => by
    have hu := upF_lt h (show 0 < n + 1 by omega)
    simp only [wayU]
    rw [if_neg (by omega), if_neg (by omega), wayU_enough h m (upF xs (n + 1)) f (by omega) (by omega), wayU_enough h m (upF xs (n + 1)) n (by omega) (by omega)]
theorem wayN_step (h : postsF b xs = 0) {n : Nat} (hn : 0 < n) : wayN xs n = wayN xs (upF xs n) ++ [n] := by
  have hu := upF_lt h hn
  obtain ⟨m, rfl⟩ : ∃ m, n = m + 1 := ⟨n - 1, by omega⟩
  unfold wayN
  rw [show wayU xs (m + 1) (m + 1) = if m + 1 = 0 then [] else wayU xs m (upF xs (m + 1)) ++ [m + 1] from rfl, if_neg (by omega), wayU_enough h m (upF xs (m + 1)) m (by omega) (by omega)]
theorem wayN_zero (xs : List Post6) : wayN xs 0 = [] := rfl
theorem wayU_len (xs : List Post6) : ∀ f n : Nat, (wayU xs f n).length ≤ f
  | 0, _ => by simp [wayU]
  | f + 1, n => by
    simp only [wayU]
    split
    · simp
    · rw [List.length_append]
      have := wayU_len xs f (upF xs n)
      simp
      omega
theorem wayN_len (xs : List Post6) (n : Nat) : (wayN xs n).length ≤ n := wayU_len xs n n
theorem wayZ_len (xs : List Post6) (n : Int) : (wayZ xs n).length ≤ n.toNat := by
  unfold wayZ
  rw [List.length_map]
  exact wayN_len _ _
theorem wayN_inj (h : postsF b xs = 0) {m n : Nat} (he : wayN xs m = wayN xs n) : m = n := by
  rcases Nat.eq_zero_or_pos m with h0 | h0
  · rcases Nat.eq_zero_or_pos n with h1 | h1
    · omega
    · subst h0
      rw [wayN_step h h1, wayN_zero] at he
      simp at he
  · rcases Nat.eq_zero_or_pos n with h1 | h1
    · subst h1
      rw [wayN_step h h0, wayN_zero] at he
      simp at he
    · rw [wayN_step h h0, wayN_step h h1] at he
      have := congrArg List.getLast? he
      simpa using this

theorem kidsN_mem (h : postsF b xs = 0) {t n : Nat} : n ∈ kidsN xs key t ↔ ∃ (k : Nat) (x : Post6), xs[k]? = some x ∧ x.paper = key ∧ x.ans = t ∧ n = k + 1 := by
  unfold kidsN kidsL
  simp only [List.mem_map, List.mem_filter, Bool.and_eq_true, decide_eq_true_eq]
  constructor
  · rintro ⟨z, ⟨x, ⟨hx, h1, h2⟩, rfl⟩, rfl⟩
    obtain ⟨k, hk⟩ := List.mem_iff_getElem?.1 hx
    exact ⟨k, x, hk, h1, h2, by have := sound_no h hk; omega⟩
  · rintro ⟨k, x, hk, h1, h2, rfl⟩
    exact ⟨x.no, ⟨x, ⟨List.mem_iff_getElem?.2 ⟨k, hk⟩, h1, h2⟩, rfl⟩, by have := sound_no h hk; omega⟩
theorem nosL_mem (h : postsF b xs = 0) {n : Int} : n ∈ nosL xs key ↔ ∃ (k : Nat) (x : Post6), xs[k]? = some x ∧ x.paper = key ∧ n = k + 1 := by
  unfold nosL
  simp only [List.mem_map, List.mem_filter, decide_eq_true_eq]
  constructor
  · rintro ⟨x, ⟨hx, h1⟩, rfl⟩
    obtain ⟨k, hk⟩ := List.mem_iff_getElem?.1 hx
    exact ⟨k, x, hk, h1, sound_no h hk⟩
  · rintro ⟨k, x, hk, h1, rfl⟩
    exact ⟨x, ⟨List.mem_iff_getElem?.2 ⟨k, hk⟩, h1⟩, sound_no h hk⟩
theorem posts_rise (h : postsF b xs = 0) : xs.Pairwise fun x y => x.no.toNat < y.no.toNat := by
  rw [List.pairwise_iff_getElem]
  intro i j hi hj hij
  have h1 := sound_no h (List.getElem?_eq_getElem hi)
  have h2 := sound_no h (List.getElem?_eq_getElem hj)
  omega
theorem posts_nodup (h : postsF b xs = 0) : (nosL xs key).Nodup := by
  unfold nosL List.Nodup
  rw [List.pairwise_map]
  exact ((posts_rise h).filter _).imp (fun hlt e => by rw [e] at hlt; omega)
theorem kids_tree (h : postsF b xs = 0) : Tree (kidsN xs key) (wayN xs) where
  rise t := by
    unfold kidsN kidsL
    rw [List.pairwise_map, List.pairwise_map]
    exact (posts_rise h).filter _
  down t n hn := by
    obtain ⟨k, x, hx, -, h2, rfl⟩ := (kidsN_mem h).1 hn
    rw [wayN_step h (by omega)]
    congr 2
    unfold upF
    rw [show k + 1 - 1 = k by omega, hx]
    simp only [h2]
    omega
  root := rfl
theorem kid_gt (h : postsF b xs = 0) {t n : Nat} (hn : n ∈ kidsN xs key t) : t < n ∧ n ≤ xs.length := by
  obtain ⟨k, x, hx, -, h2, rfl⟩ := (kidsN_mem h).1 hn
  have hk := (List.getElem?_eq_some_iff.1 hx).1
  refine ⟨?_, by omega⟩
  by_cases h0 : x.ans = 0
  · omega
  · obtain ⟨q, y, h3, h4, -, -⟩ := sound_ans h hx h0
    omega
theorem way_down (h : postsF b xs = 0) : ∀ (m k : Nat) (x : Post6), k < m → xs[k]? = some x → x.paper = key → ∃ l, wayN xs (k + 1) = l ++ [k + 1] ∧ WayDown (kidsN xs key) 0 (l ++ [k + 1]) ∧ l.length ≤ k
  | 0, k, _, hk, _, _ => absurd hk (by omega)
  | m + 1, k, x, hk, hx, hp => by
    by_cases h0 : x.ans = 0
    · have hu : upF xs (k + 1) = 0 := by
        unfold upF
        rw [show k + 1 - 1 = k by omega, hx]
        simp only [h0]
        rfl
      refine ⟨[], ?_, ⟨(kidsN_mem h).2 ⟨k, x, hx, hp, by omega, rfl⟩, trivial⟩, by simp⟩
      rw [wayN_step h (by omega), hu]
      rfl
    · obtain ⟨q, y, h1, h2, h3, h4⟩ := sound_ans h hx h0
      obtain ⟨l, e1, e2, e3⟩ := way_down h m q y (by omega) h3 (h4.trans hp)
      have hu : upF xs (k + 1) = q + 1 := by
        unfold upF
        rw [show k + 1 - 1 = k by omega, hx]
        simp only [h1]
        omega
      refine ⟨l ++ [q + 1], ?_, WayDown.snoc e2 ?_, by simp; omega⟩
      · rw [wayN_step h (by omega), hu, e1]
      · have hg : (0 :: (l ++ [q + 1])).getLast (by simp) = q + 1 := by
          rw [List.getLast_cons (by simp)]
          simp
        rw [hg]
        exact (kidsN_mem h).2 ⟨k, x, hx, hp, by omega, rfl⟩
theorem thr_sub {ks : Nat → List Nat} : ∀ (f t d : Nat) (p : Nat × Nat), p ∈ thr ks f t d → ∃ s, p.1 ∈ ks s
  | 0, _, _, _, h => by simp [thr] at h
  | f + 1, t, d, p, h => by
    simp only [thr, List.mem_flatMap] at h
    obtain ⟨n, hn, hp⟩ := h
    rcases List.mem_cons.1 hp with e | e
    · exact ⟨t, by rw [e]; exact hn⟩
    · exact thr_sub f n (d + 1) p e
theorem thread_mem (h : postsF b xs = 0) (n : Int) : n ∈ (threadN xs key).map (fun p => (p.1 : Int)) ↔ n ∈ nosL xs key := by
  rw [nosL_mem h, List.mem_map]
  constructor
  · rintro ⟨p, hp, rfl⟩
    obtain ⟨s, hs⟩ := thr_sub _ _ _ _ hp
    obtain ⟨k, x, hx, h1, -, h3⟩ := (kidsN_mem h).1 hs
    exact ⟨k, x, hx, h1, by omega⟩
  · rintro ⟨k, x, hx, h1, rfl⟩
    have hk := (List.getElem?_eq_some_iff.1 hx).1
    obtain ⟨l, -, e2, e3⟩ := way_down h (k + 1) k x (by omega) hx h1
    exact ⟨_, thr_mem (f := xs.length + 1) (d := 0) e2 (by omega), by simp⟩
theorem thread_rise (h : postsF b xs = 0) : ((threadN xs key).map (fun p => (p.1 : Int))).Pairwise (fun x y => lexL (wayN xs x.toNat) (wayN xs y.toNat) = true) := by
  rw [List.pairwise_map]
  exact (thr_ways (kids_tree h) _ 0 0 rfl).2.imp (fun hl => by simpa using hl)
theorem thread_sorted (h : postsF b xs = 0) {ss : List Int} (hp : ss.Perm (nosL xs key)) (hs : ss.Pairwise fun x y => cmpLI (wayZ xs x) (wayZ xs y) ≤ 0) : ss = (threadN xs key).map (fun p => (p.1 : Int)) := by
  have hpos : ∀ x ∈ ss, 0 < x := fun x hx => by
    obtain ⟨k, _, _, _, h3⟩ := (nosL_mem h).1 (hp.mem_iff.1 hx)
    omega
  have hnd : ss.Nodup := hp.nodup_iff.2 (posts_nodup h)
  have hst : ss.Pairwise (fun x y => lexL (wayN xs x.toNat) (wayN xs y.toNat) = true) := by
    refine List.Pairwise.imp_of_mem ?_ (hs.and hnd)
    rintro x y hx hy ⟨h1, h2⟩
    have h3 := (cmpLI_lex _ _).1 h1
    cases h4 : lexL (wayN xs x.toNat) (wayN xs y.toNat) with
    | true => rfl
    | false =>
      have h5 := wayN_inj h (lexL_total h4 h3)
      have := hpos x hx
      have := hpos y hy
      omega
  refine strict_eq (fun a b h1 h2 => ?_) hst (thread_rise h) (fun a => ?_)
  · have := lexL_trans h1 h2
    rw [lexL_irrefl] at this
    cases this
  · rw [thread_mem h]
    exact hp.mem_iff
/-- What a sort by ways gives is what the walk down writes. -/
theorem thread_of (h : postsF b xs = 0) {ss : List Int} (hp : ss.Perm (nosL xs key)) (hs : ss.Pairwise fun x y => cmpLI (wayZ xs x) (wayZ xs y) ≤ 0) : ss.map (fun n => (n, ((wayZ xs n).length : Int) - 1)) = threadL xs key := by
  rw [thread_sorted h hp hs, threadL, List.map_map]
  refine List.map_congr_left (fun p hp => ?_)
  obtain ⟨-, -, -, -, h2⟩ := (thr_ways (kids_tree h) _ 0 0 rfl).1 p hp
  simp only [Function.comp, pairZ, wayZ, List.length_map, Int.toNat_natCast]
  rw [← h2]
  congr 1
  omega
theorem nodup_len : ∀ {n : Nat} {l : List Nat}, l.Nodup → (∀ x ∈ l, x < n) → l.length ≤ n
  | 0, [], _, _ => Nat.le_refl _
  | 0, x :: l, _, h => absurd (h x (by simp)) (by omega)
  | n + 1, l, hd, h => by
    have h1 : (l.filter fun x => decide (x ≠ n)).length ≤ n := nodup_len (hd.filter _) (fun x hx => by
      obtain ⟨a, c⟩ := List.mem_filter.1 hx
      have := h x a
      simp at c
      omega)
    have h2 : l.length ≤ (l.filter fun x => decide (x ≠ n)).length + 1 := by
      clear h1 h
      induction l with
      | nil => simp
      | cons y l ih =>
        obtain ⟨a, c⟩ := List.nodup_cons.1 hd
        by_cases hy : y = n
        · subst hy
          rw [List.filter_cons_of_neg (by simp), List.filter_eq_self.2 (fun x hx => by simp; rintro rfl; exact a hx)]
          simp
        · rw [List.filter_cons_of_pos (by simpa using hy)]
          have := ih c
          simp only [List.length_cons]
          omega
    omega
theorem thread_len (h : postsF b xs = 0) : (threadN xs key).length ≤ xs.length + 1 := by
  have h1 : ((threadN xs key).map Prod.fst).Nodup := by
    unfold List.Nodup
    rw [List.pairwise_map]
    refine (thr_ways (kids_tree h) _ 0 0 rfl).2.imp (fun hl e => ?_)
    rw [e, lexL_irrefl] at hl
    cases hl
  have h2 := nodup_len h1 (n := xs.length + 1) (fun x hx => by
    obtain ⟨p, hp, rfl⟩ := List.mem_map.1 hx
    obtain ⟨s, hs⟩ := thr_sub _ _ _ _ hp
    have := (kid_gt h hs).2
    omega)
  simpa using h2
end
end Go.Proofs.YtllkemadaemjeaaGreatDoor

/- Thread's walk down (Thread$1) writes thr. -/
namespace Go.Proofs.YtllkemadaemjeaaGreatDoor
open Go.RowKit

abbrev LI (w : World) (B mb n : Nat) (vals : Int → Value) (f : Int → List Int) : Prop := RowI Tryz.prog 3 RInt 1 3 w B mb n vals f
theorem LI.look {w : World} {B mb n : Nat} {vals : Int → Value} {f : Int → List Int} (h : LI w B mb n vals f) (p : Int) (hp : -1000000000000000 ≤ p ∧ p ≤ 1000000000000000) :
    (Instr.lookup 140 (.map (some mb)) (.int .i64 p) false).run Tryz.prog w = .ok (vals p) w :=
  RowI.look h Tryz.underlying3 Tryz.underlying140 (Tryz.zeroValue22 w) p hp

/-- What the walk down stands on: the map of rows in its cell, its own function in another; all below B2, none in block ob. -/
structure WalkAt (cb ob fb mb B B2 n : Nat) (vals : Int → Value) (f : Int → List Int) (w : World) : Prop where
  c : w.cell? ⟨cb, 0, none⟩ = some (.map (some mb))
  fn : w.cell? ⟨fb, 0, none⟩ = some (.func (.func 91) #[] #[.pointer (some ⟨cb, 0, none⟩), .pointer (some ⟨ob, 0, none⟩), .pointer (some ⟨fb, 0, none⟩)])
  rows : LI w B mb n vals f
  low : cb < B2 ∧ cb ≠ ob ∧ fb < B2 ∧ fb ≠ ob ∧ mb < B2 ∧ mb ≠ ob ∧ ob < B2
  own : ∀ t k, (vals t).ownBlock = some k → k < B2 ∧ k ≠ ob
  size : B2 ≤ w.heap.size
abbrev LowBut (B2 ob : Nat) (w w' : World) : Prop := Kept (fun k => k < B2 ∧ k ≠ ob) w w'
theorem WalkAt.keep {cb ob fb mb B B2 n : Nat} {vals : Int → Value} {f : Int → List Int} {w w' : World} (h : WalkAt cb ob fb mb B B2 n vals f w) (k : LowBut B2 ob w w') : WalkAt cb ob fb mb B B2 n vals f w' := by
  obtain ⟨h1, h2, h3, h4, h5, h6⟩ := h
  exact ⟨k.cell h1 ⟨h4.1, h4.2.1⟩, k.cell h2 ⟨h4.2.2.1, h4.2.2.2.1⟩, h3.keepG flatInt k ⟨h4.2.2.2.2.1, h4.2.2.2.2.2.1⟩ h5, h4, h5, Nat.le_trans h6 k.size⟩
/-- The row that is written, in its cell. -/
def OutAt (ob B2 : Nat) (out : List (Int × Int)) (w : World) : Prop := ∃ v, w.heap[ob]? = some (.cells #[v] 82 (0, 0)) ∧ Acc RLine 2 91 (fun _ => False) B2 w v out

/-- What is written for the first k children. -/
def preN (ks : Nat → List Nat) (f t d k : Nat) : List (Nat × Nat) := ((ks t).take k).flatMap fun n => (n, d) :: thr ks f n (d + 1)
theorem preN_zero (ks : Nat → List Nat) (f t d : Nat) : preN ks f t d 0 = [] := by simp [preN]
theorem preN_all (ks : Nat → List Nat) (f t d k : Nat) (h : (ks t).length ≤ k) : preN ks f t d k = thr ks (f + 1) t d := by rw [preN, List.take_of_length_le h]; rfl
theorem preN_succ {ks : Nat → List Nat} {f t d k n : Nat} (h : (ks t)[k]? = some n) : preN ks f t d (k + 1) = preN ks f t d k ++ (n, d) :: thr ks f n (d + 1) := by
  unfold preN
  rw [List.take_add_one, h, List.flatMap_append]
  simp
theorem preN_len (ks : Nat → List Nat) (f t d k : Nat) : (preN ks f t d k).length ≤ (thr ks (f + 1) t d).length := by
  have h : thr ks (f + 1) t d = preN ks f t d k ++ ((ks t).drop k).flatMap fun n => (n, d) :: thr ks f n (d + 1) := by
    unfold preN
    rw [← List.flatMap_append, List.take_append_drop]
    rfl
  rw [h, List.length_append]
  omega
theorem kids_at {b : Board4} {xs : List Post6} {key : ByteArray} (h : postsF b xs = 0) {t k : Nat} (hk : k < (kidsL xs key (t : Int)).length) : ∃ n : Nat, (kidsN xs key t)[k]? = some n ∧ (kidsL xs key (t : Int)).getD k 0 = (n : Int) ∧ t < n ∧ n ≤ xs.length := by
  have h1 : (kidsN xs key t)[k]? = some ((kidsL xs key (t : Int))[k].toNat) := by
    unfold kidsN
    rw [List.getElem?_map, List.getElem?_eq_getElem hk]
    rfl
  have hm : (kidsL xs key (t : Int))[k] ∈ kidsL xs key (t : Int) := List.getElem_mem _
  have h2 := kid_gt h (List.mem_iff_getElem?.2 ⟨k, h1⟩)
  refine ⟨_, h1, ?_, h2.1, h2.2⟩
  rw [List.getD_eq_getElem?_getD, List.getElem?_eq_getElem hk]
  simp only [Option.getD_some]
  omega

set_option maxRecDepth 100000 in
set_option maxHeartbeats 6400000 in
theorem thread1_any {bd : Board4} {xs : List Post6} {key : ByteArray} (hsnd : postsF bd xs = 0) (hlen : xs.length ≤ 2000) {cb ob fb mb B B2 n : Nat} {vals : Int → Value} :
    ∀ (fu t d : Nat) (out : List (Int × Int)) (w : World), t ≤ xs.length → xs.length - t < fu → d ≤ t → WalkAt cb ob fb mb B B2 n vals (kidsL xs key) w → OutAt ob B2 out w → out.length + (thr (kidsN xs key) fu t d).length ≤ 1000000 →
    Calls Tryz.prog 91 #[.int .i64 t, .int .i64 d, .pointer (some ⟨cb, 0, none⟩), .pointer (some ⟨ob, 0, none⟩), .pointer (some ⟨fb, 0, none⟩)] w fun e w' => e = .returned (.tuple #[]) ∧ OutAt ob B2 (out ++ (thr (kidsN xs key) fu t d).map pairZ) w' ∧ LowBut B2 ob w w' := by
  intro fu
  induction fu with
  | zero => intro t d out w _ h; omega
  | succ f ih =>
    intro t d out w ht hfu hd hw hob hb
    have IH := Lib.hid ih
    have HW := Lib.hid hw
    have HOB := Lib.hid hob
    have hKN : (kidsN xs key t).length = (kidsL xs key (t : Int)).length := by simp [kidsN]
    have HKN := Lib.hid hKN
    have HB := Lib.hid hb
    have HT := Lib.hid (show t ≤ xs.length ∧ xs.length - t < f + 1 ∧ d ≤ t from ⟨ht, hfu, hd⟩)
    have hdb : d ≤ 2000 := by omega
    have htb : t ≤ 2000 := by omega
    have c0 := hw.c
    have l0 := hw.rows.look (t : Int) (by omega)
    have hrow := hw.rows.acc (t : Int)
    obtain ⟨ra, rc, hv, hrc⟩ := hrow.form
    obtain ⟨ra', rc', hv', hrs⟩ := hrow.sl RInt.ok (by decide) (G := fun k => k < B2 ∧ k ≠ ob) (fun _ h => h.elim) (fun k hk => hw.own _ _ hk)
    rw [hv] at hv' l0
    obtain ⟨rl, hrl⟩ : ∃ m, m = (kidsL xs key (t : Int)).length := ⟨_, rfl⟩
    rw [← hrl] at hrs hv' l0 hrc
    injection hv' with q1 q2 q3
    subst q1 q3
    have HRL := Lib.hid hrl
    have HRS := Lib.hid hrs
    have hrb : rl ≤ 2000 := by
      have := kidsL_len xs key (t : Int)
      omega
    have HSN := Lib.hid hsnd
    clear hrs hrl q2 hrow hv hw hob ih hKN hb ht hfu hd hsnd
    go_enter Tryz.func91, Tryz.ntmps91
    go_wp2_with fail
    go_loopw [13] (fun i wr => ∃ k : Nat, k ≤ rl ∧ i = .int .i64 k ∧ OutAt ob B2 (out ++ (preN (kidsN xs key) f t d k).map pairZ) wr ∧ LowBut B2 ob w wr) (fun i _ => rl - (intOf i).toNat)
    case atStart => exact ⟨0, Nat.zero_le _, rfl, by rw [preN_zero]; simpa using HOB.out, Kept.refl _ _⟩
    case round =>
      obtain ⟨k, hk, rfl, ⟨v, hblk, hacc⟩, hwr⟩ := hrel
      obtain ⟨wo, rfl⟩ : ∃ wo : World, wo = wr := ⟨_, rfl⟩
      by_cases hlt : k < rl
      · obtain ⟨nk, hn1, hn2, hn3, hn4⟩ := kids_at (key := key) HSN.out (t := t) (k := k) (by have := HRL.out; omega)
        obtain ⟨rb, ro, hra, -, hrci⟩ := (HRS.out.keep RInt.ok hwr).ints (by omega)
        have p0 := hrci k hlt
        rw [hn2] at p0
        subst hra
        have HWo := Lib.hid (HW.out.keep hwr)
        have hlow := HWo.out.low
        have hB2 := HWo.out.size
        have e0 := cell_at (i := 0) hblk rfl
        have f0 := frozen_at (i := 0) hblk
        have e1 := HWo.out.fn
        have HP := Lib.hid (preN_succ (f := f) (d := d) hn1)
        have hpl := preN_len (kidsN xs key) f t d (k + 1)
        have HPL := Lib.hid (show (preN (kidsN xs key) f t d k).length + 1 + (thr (kidsN xs key) f nk (d + 1)).length ≤ (thr (kidsN xs key) (f + 1) t d).length by rw [HP.out] at hpl; simpa [Nat.add_assoc, Nat.add_comm, Nat.add_left_comm] using hpl)
        obtain ⟨ou, hou⟩ : ∃ o, o = out ++ (preN (kidsN xs key) f t d k).map pairZ := ⟨_, rfl⟩
        have HOU := Lib.hid hou
        rw [← hou] at hacc
        have hol : ou.length + 1 ≤ 1000000 := by
          have h1 := HPL.out
          have h2 := HB.out
          rw [hou]
          simp
          omega
        obtain ⟨av, cv, rfl, hcv⟩ := hacc.form
        obtain ⟨m, hm⟩ : ∃ m, m = ou.length := ⟨_, rfl⟩
        have HM := Lib.hid hm
        rw [← hm] at hacc hol hcv hblk e0
        have HBLK := Lib.hid hblk
        have HWR := Lib.hid hwr
        have HN := Lib.hid (show t < nk ∧ nk ≤ xs.length from ⟨hn3, hn4⟩)
        clear hm hou hn1 hn2 hn3 hn4 hrci hpl hblk hwr l0 c0
        obtain ⟨d2, hd2⟩ : ∃ d2, d2 = d + 1 := ⟨_, rfl⟩
        have HD2 := Lib.hid hd2
        have f1 : IntKind.i64.wrap ((d : Int) + 1) = (d2 : Int) := by rw [hd2, IntWalk.i64_in _ (by omega)]; omega
        clear hd2
        go_wp2_with (at_builtin; refine wp_append1 RLine.ok _ rfl _ _ 82 rfl B2 91 (.agg #[.int .i64 0, .int .i64 0]) 2 16 Tryz.underlying82 (by kernel_rfl) rfl (by decide) (fun _ => False) _ ou rfl (hacc.keepAll RLine.ok (Kept.alloc _ _ _)) ⟨_, 0, none⟩ 1 [.int .i64 nk, .int .i64 d] rfl rfl (World.news_of_block (cs := #[.int .i64 nk, .int .i64 d]) (heap_alloc_new wo _)) (by simp [Value.oneCell']) ((nk : Int), (d : Int)) rfl (by have := HM.out; omega) (by decide) (by simp; omega) ?_)
        intro p8 c8 w9 hac9 hgrow hat9
        have hka : LowBut B2 ob wo (wo.alloc (.cells #[.int .i64 nk, .int .i64 d] 91)) := Kept.alloc _ _ _
        have hkb : Kept (fun k => k < B2) wo w9 := (Kept.alloc (fun k => k < B2) wo (.cells #[.int .i64 nk, .int .i64 d] 91)).grown hgrow (fun k hk => Or.inr (by have := (hacc.lt k hk).1; omega))
        have hblk9 := hkb.heap HBLK.out hlow.2.2.2.2.2.2
        have e9 := cell_at (i := 0) hblk9 rfl
        have f9 := frozen_at (i := 0) hblk9
        have hblk10 := heap_setCell_at w9 ob 0 (.slice p8 (ou.length + 1) c8) _ _ _ hblk9
        simp only [List.setIfInBounds_toArray, List.set_cons_zero] at hblk10
        have hk10 : LowBut B2 ob wo (w9.setCell ⟨ob, 0, none⟩ (.slice p8 (ou.length + 1) c8)) := (hkb.mono (fun k hk => hk.1)).then_setCell _ _ (by simp)
        have hac10 : Acc RLine 2 91 (fun _ => False) B2 (w9.setCell ⟨ob, 0, none⟩ (.slice p8 (ou.length + 1) c8)) (.slice p8 (ou.length + 1) c8) (ou ++ [((nk : Int), (d : Int))]) :=
          hac9.keep RLine.ok (Kept.setCell (F := fun k => k ≠ ob) w9 _ _ (by simp)) (fun _ h => h.elim) (fun k hk => by have := (hac9.lt k hk).1; omega)
        have hw10 := HWo.out.keep hk10
        have e10 := hw10.fn
        have HO10 := Lib.hid (show OutAt ob B2 (ou ++ [((nk : Int), (d : Int))]) (w9.setCell ⟨ob, 0, none⟩ (.slice p8 (ou.length + 1) c8)) from ⟨_, hblk10, hac10⟩)
        have HK10 := Lib.hid (HWR.out.trans hk10)
        have HW10 := Lib.hid hw10
        clear hgrow hat9 hka hkb hblk9 hblk10 hk10 hac10 hw10 hac9 hacc e0 f0 e1
        have eg : ∀ args w, (callFunc 91 args).run Tryz.prog w = .ok (.enter 91 args) w := enters_of Tryz.func91 (by kernel_rfl) rfl
        go_upto_region 4 with fail
        generalize w9.setCell ⟨ob, 0, none⟩ (.slice p8 (ou.length + 1) c8) = w10 at *
        clear e9 f9 p0
        have hIH := Lib.hid (IH.out nk d2 (ou ++ [((nk : Int), (d : Int))]) w10 HN.out.2 (by have := HT.out; have := HN.out; omega) (by have := HD2.out; have := HN.out; have := HT.out; omega) HW10.out HO10.out (by
          have h1 := HPL.out
          have h2 := HB.out
          have h3 := HD2.out
          rw [HOU.out]
          rw [← h3] at h1
          simp only [List.length_append, List.length_map, List.length_cons, List.length_nil]
          omega))
        go_wp2_with fail
        refine hIH.out.mono ?_
        rintro e w11 ⟨rfl, HO11, hk11⟩
        have HO := Lib.hid (show OutAt ob B2 (out ++ (preN (kidsN xs key) f t d (k + 1)).map pairZ) w11 from by
          have h3 := HD2.out
          rw [HP.out, List.map_append, ← List.append_assoc, ← HOU.out, List.map_cons, ← h3]
          rw [List.append_assoc] at HO11
          exact HO11)
        have hk12 := HK10.out.trans hk11
        clear HO11 hk11 e10
        go_wp2_with fail
        go_roundw
        case rel => exact ⟨k + 1, by omega, by go_num, HO.out, hk12⟩
        case measure => simp [intOf]; omega
      · have hd2 : decide ((k : Int) < (rl : Int)) = false := by simp; omega
        have hfin := Lib.hid (show OutAt ob B2 (out ++ (thr (kidsN xs key) (f + 1) t d).map pairZ) wo from by
          rw [← preN_all _ _ _ _ k (by have := HKN.out; have := HRL.out; omega)]
          exact ⟨v, hblk, hacc⟩)
        clear hblk hacc
        go_wp2_with fail
        refine bodyPost_end (results_none rfl _ _ _) rfl ?_
        exact ⟨rfl, hfin.out, hwr⟩
end Go.Proofs.YtllkemadaemjeaaGreatDoor

/- Thread answers threadL. -/
namespace Go.Proofs.YtllkemadaemjeaaGreatDoor
open Go.RowKit

theorem postsF_len {b : Board4} {xs : List Post6} (h : postsF b xs = 0) : xs.length ≤ 2000 := by
  have := (postsF_zero h).2.1
  omega
/-- A row of one number, new since size z. -/
def DNew (z : Nat) (y : Int) (v : Value) (w : World) : Prop := ∃ b, v = .slice (some ⟨b, 0, none⟩) 1 1 ∧ z ≤ b ∧ w.heap[b]? = some (.cells #[.int .i64 y] 3 (0, 0))
/-- What holds while the operations come in whatever order: nothing but row u changes, and it does not ahead of the append (operation 10). -/
def ThrG (wa : World) (u : Value) (L : Nat → Bool) (w : World) : Prop := Kept (fun i => u.ownBlock ≠ some i) wa w ∧ (L 10 = false → All wa w)
/-- How each may change the world. -/
def ThrM (u : Value) (j : Nat) (w w' : World) : Prop := if j = 10 then Kept (fun i => u.ownBlock ≠ some i) w w' else All w w'
theorem thrG_same {wa w : World} {u : Value} {L : Nat → Bool} {i : Nat} (h : ThrG wa u L w) (hi : i ≠ 10) : ThrG wa u (fun j => if j = i then true else L j) w := ⟨h.1, fun hL => h.2 (by simpa [show ¬ 10 = i from fun e => hi e.symm] using hL)⟩
theorem thrG_alloc {wa w : World} {u : Value} {L : Nat → Bool} {i : Nat} (h : ThrG wa u L w) (hi : i ≠ 10) (o : Obj) : ThrG wa u (fun j => if j = i then true else L j) (w.alloc o) := ⟨h.1.then_alloc o, fun hL => (h.2 (by simpa [show ¬ 10 = i from fun e => hi e.symm] using hL)).then_alloc o⟩
theorem DNew.keep {z j : Nat} {y : Int} {v u : Value} {w w' : World} (h : DNew z y v w) (hz : ∀ i, u.ownBlock = some i → i < z) (hm : ThrM u j w w') : DNew z y v w' := by
  obtain ⟨b, h1, h2, h3⟩ := h
  refine ⟨b, h1, h2, ?_⟩
  unfold ThrM at hm
  split at hm
  · exact hm.heap h3 (fun e => by have := hz _ e; omega)
  · exact hm.heap h3 trivial
/-- What the append has left: the row with one number more; nothing else has changed since. -/
def DApp (wa : World) (B mb n : Nat) (vals : Int → Value) (f : Int → List Int) (t y : Int) (v : Value) (w : World) : Prop :=
  ∃ wx w7 p c, v = .slice p ((f t).length + 1) c ∧ All wa wx ∧ LI wx B mb n vals f ∧ Acc RInt 1 3 (fun _ => False) B w7 (.slice p ((f t).length + 1) c) (f t ++ [y]) ∧ wx.grownBy w7 (vals t).ownBlock ∧
    ((Value.slice p ((f t).length + 1) c).ownBlock = (vals t).ownBlock ∨ (Value.slice p ((f t).length + 1) c).ownBlock = some wx.heap.size) ∧ All w7 w
theorem DApp.keep {wa w w' : World} {B mb n : Nat} {vals : Int → Value} {f : Int → List Int} {t y : Int} {v : Value} (h : DApp wa B mb n vals f t y v w) (k : All w w') : DApp wa B mb n vals f t y v w' := by
  obtain ⟨wx, w7, p, c, h1, h2, h3, h4, h5, h6, h7⟩ := h
  exact ⟨wx, w7, p, c, h1, h2, h3, h4, h5, h6, h7.trans k⟩

set_option maxRecDepth 100000 in
set_option maxHeartbeats 12800000 in
theorem thread_any (a0 : Option Addr) (l0 c0 : Nat) (a1 : Option Addr) (l1 c1 : Nat) (a2 : Option Addr) (l2 c2 : Nat) (a3 : Option Addr) (l3 c3 : Nat) (b : Board4) (a : Option Addr) (len cap : Nat) (xs : List Post6) (key : ByteArray) (w : World) (h : BoardIs w a0 l0 a1 l1 a2 l2 a3 l3 b) (hs : Sl RPost 6 (fun _ => True) w a len xs) (hl : len ≤ 1000000) (hcap : len ≤ cap) (hkz : key.size ≤ 1000000) (hg : Tabs w) :
    Calls Tryz.prog 41 #[.agg #[.slice a0 l0 c0, .slice a1 l1 c1, .slice a2 l2 c2, .slice a3 l3 c3], .slice a len cap, .string key] w (RowPost RLine 2 91 (keyE b xs key) (threadL xs key) w) := by
  have Hlen := Lib.hid hs.len
  have hk1 : All w (w.alloc (.cells #[.slice a0 l0 c0, .slice a1 l1 c1, .slice a2 l2 c2, .slice a3 l3 c3] 50)) := Kept.alloc _ _ _
  have hblkB := heap_at w (.cells #[.slice a0 l0 c0, .slice a1 l1 c1, .slice a2 l2 c2, .slice a3 l3 c3] 50) _ rfl
  obtain ⟨bb, hbb⟩ : ∃ k, k = w.heap.size := ⟨_, rfl⟩
  have HBB := Lib.hid hbb
  rw [← hbb] at hblkB
  have hszq : w.heap.size ≤ (w.alloc (.cells #[.slice a0 l0 c0, .slice a1 l1 c1, .slice a2 l2 c2, .slice a3 l3 c3] 50)).heap.size := hk1.size
  have HCP := Lib.hid (fun (wx : World) (k : All (w.alloc (.cells #[.slice a0 l0 c0, .slice a1 l1 c1, .slice a2 l2 c2, .slice a3 l3 c3] 50)) wx) => checkPosts_any a0 l0 c0 a1 l1 c1 a2 l2 c2 a3 l3 c3 b a len cap xs wx (h.keep (hk1.trans k)) (hs.keep RPost.ok (hk1.trans k)) hl hcap (hg.keep (hk1.trans k)))
  have HS := Lib.hid (fun (wx : World) (k : All (w.alloc (.cells #[.slice a0 l0 c0, .slice a1 l1 c1, .slice a2 l2 c2, .slice a3 l3 c3] 50)) wx) => hs.keep RPost.ok (hk1.trans k))
  have HBC := Lib.hid (fun (wx : World) (k : All (w.alloc (.cells #[.slice a0 l0 c0, .slice a1 l1 c1, .slice a2 l2 c2, .slice a3 l3 c3] 50)) wx) => (⟨k.cell (cell_at (i := 0) hblkB rfl) trivial, k.cell (cell_at (i := 1) hblkB rfl) trivial, k.cell (cell_at (i := 2) hblkB rfl) trivial, k.cell (cell_at (i := 3) hblkB rfl) trivial⟩ : _ ∧ _ ∧ _ ∧ _))
  have HK1 := Lib.hid hk1
  obtain ⟨fe, hfe⟩ : ∃ x, x = postsF b xs := ⟨_, rfl⟩
  have HFE := Lib.hid hfe
  obtain ⟨er, her⟩ : ∃ x, x = keyE b xs key := ⟨_, rfl⟩
  have HER := Lib.hid (show er = if fe ≠ 0 then fe else if isKeyB key = true then 0 else 5 from by rw [her, hfe]; rfl)
  rw [← her]
  obtain ⟨b0, b1, b2, b3⟩ := HBC.out _ (Kept.refl _ _)
  clear hs h hg hblkB hbb hk1 hfe her
  go_enter Tryz.func41, Tryz.ntmps41
  go_wp2_with fail
  simp only [← HBB.out]
  generalize w.alloc (.cells #[.slice a0 l0 c0, .slice a1 l1 c1, .slice a2 l2 c2, .slice a3 l3 c3] 50) = wq at *
  refine (HCP.out _ (Kept.refl _ _)).mono ?_
  rintro e w2 ⟨rfl, hw2⟩
  rw [← HFE.out]
  clear b0 b1 b2 b3
  by_cases hf0 : fe = 0
  · subst hf0
    cases hky : isKeyB key with
    | false =>
      have HE5 := Lib.hid (show er = 5 from by rw [HER.out, hky]; rfl)
      go_wp2_with fail
      refine (isKey_any key _ (by omega)).mono ?_
      rintro e w' ⟨rfl, hh⟩
      subst hh
      rw [hky]
      go_wp2_with fail
      go_ret2
      exact ⟨fun _ => by rw [HE5.out]; rfl, fun h => absurd (HE5.out.symm.trans h) (by decide), HK1.out.trans hw2⟩
    | true =>
      have HE0 := Lib.hid (show er = 0 from by rw [HER.out, hky]; rfl)
      go_wp2_with fail
      refine (isKey_any key _ (by omega)).mono ?_
      rintro e w' ⟨rfl, hh⟩
      subst hh
      rw [hky]
      have hmm := @run_makeMap Tryz.prog
      obtain ⟨mb, hmb⟩ : ∃ k, k = w2.heap.size := ⟨_, rfl⟩
      obtain ⟨cb, hcb⟩ : ∃ k, k = w2.heap.size + 1 := ⟨_, rfl⟩
      obtain ⟨B, hB⟩ : ∃ k, k = w2.heap.size + 2 := ⟨_, rfl⟩
      have HMB := Lib.hid hmb
      have HCB := Lib.hid hcb
      have hn := heap_at (w2.alloc (.map #[] 0)) (.cells #[.map none] 140) cb (by rw [hcb]; simp)
      have q0 := cell_at (i := 0) hn rfl
      have q1 := frozen_at (i := 0) hn
      have hst : (store ⟨w2.heap.size + 1, 0, none⟩ (.map (some w2.heap.size))).run Tryz.prog ((w2.alloc (.map #[] 0)).alloc (.cells #[.map none] 140)) = .ok () ((w2.alloc (.map #[] 0)).alloc (.cells #[.map (some w2.heap.size)] 140)) := by
        rw [run_store _ _ _ _ _ rfl, ← hcb, q0]
        simp [World.setCell_alloc_at, hcb]
      have hm0 : LI (w2.alloc (.map #[] 0)) B w2.heap.size 0 (fun _ => .slice none 0 0) (fun _ => []) := RowI.startB Tryz.prog 3 RInt 1 3 w2 B
      have hm1 := RowI.keep flatInt hm0 (Kept.alloc (fun _ => True) _ (.cells #[.map (some w2.heap.size)] 140))
      have hcm := heap_at (w2.alloc (.map #[] 0)) (.cells #[.map (some w2.heap.size)] 140) cb (by rw [hcb]; simp)
      have hka : All w2 ((w2.alloc (.map #[] 0)).alloc (.cells #[.map (some w2.heap.size)] 140)) := (Kept.alloc _ _ _).then_alloc _
      have hz4 : ((w2.alloc (.map #[] 0)).alloc (.cells #[.map (some w2.heap.size)] 140)).heap.size = B := by rw [hB]; simp
      have hsz2 := hw2.size
      have hqa := hw2.trans hka
      have hqm : wq.heap.size ≤ mb := by omega
      have hmcB : mb < cb ∧ cb < B := by omega
      rw [← hmb] at hm1 hcm hka hz4 hqa
      have HCB2 := Lib.hid (show cb = mb + 1 by omega)
      clear hm0 hn q0 q1 hmb hcb hB
      go_wp2_with fail
      clear hst
      simp only [← HMB.out]
      simp only [← HCB2.out]
      generalize (w2.alloc (.map #[] 0)).alloc (.cells #[.map (some mb)] 140) = w4 at *
      have Hend := Lib.hid (show ∀ wx, But mb w4 wx → All wq wx from fun wx hw => hqa.trans2 hw (fun i hi _ e => by omega))
      have HCM := Lib.hid hcm
      have HM1 := Lib.hid hm1
      clear hka hw2 hsz2 hcm hm1 hqa
      go_loopw [26] (fun i wr => ∃ k : Nat, k ≤ len ∧ i = .int .i64 k ∧ (∃ n vals, n ≤ k ∧ LI wr B mb n vals (kidsL (xs.take k) key)) ∧ But mb w4 wr) (fun i _ => len - (intOf i).toNat)
      case atStart => exact ⟨0, Nat.zero_le _, rfl, ⟨0, _, Nat.le_refl _, HM1.out⟩, Kept.refl _ _⟩
      case round =>
        clear hmm
        obtain ⟨k, hk, rfl, ⟨n, vals, hnk, hmap⟩, hwr⟩ := hrel
        obtain ⟨wo, rfl⟩ : ∃ wo : World, wo = wr := ⟨_, rfl⟩
        by_cases hlt : k < len
        · have hq := Hend.out _ hwr
          obtain ⟨pb, off, x, ha, -, c0, c1, c2, c3, c4, c5, hsm, hx, htk⟩ := (HS.out _ hq).atPost hlt
          subst ha
          have HX := Lib.hid htk
          have hans : -1000000000000000 ≤ x.ans ∧ x.ans ≤ 1000000000000000 := by
            by_cases h0 : x.ans = 0
            · omega
            · obtain ⟨q, _, h1, h2, -⟩ := sound_ans HFE.out.symm hx h0
              omega
          have hko : All wo (wo.alloc (.cells #[.int .i64 x.no, .int .i64 x.tm, .string x.paper, .string x.person, .int .i64 x.ans, .string x.words] 58)) := Kept.alloc _ _ _
          have hblk := heap_at wo (.cells #[.int .i64 x.no, .int .i64 x.tm, .string x.paper, .string x.person, .int .i64 x.ans, .string x.words] 58) _ rfl
          have hwa : But mb w4 (wo.alloc (.cells #[.int .i64 x.no, .int .i64 x.tm, .string x.paper, .string x.person, .int .i64 x.ans, .string x.words] 58)) := hwr.then_alloc _
          have hcw := hwr.heap HCM.out (show cb ≠ mb by omega)
          have hcm := hko.heap hcw trivial
          have hzo := hwr.size
          have hrow : ∀ i, (vals x.ans).ownBlock = some i → B ≤ i ∧ i < wo.heap.size := fun i hi => (hmap.acc x.ans).lt i hi
          have hmapa : LI _ _ _ _ _ _ := RowI.keep flatInt hmap hko
          have hfl : (kidsL (xs.take k) key x.ans).length + 1 ≤ 1000000000 := by
            have h1 := kidsL_len (xs.take k) key x.ans
            have h2 := List.length_take_le k xs
            omega
          obtain ⟨xb, hxb⟩ : ∃ q, q = wo.heap.size := ⟨_, rfl⟩
          have HXB := Lib.hid hxb
          rw [← hxb] at hblk hrow
          have hxo : cb < xb ∧ B ≤ xb := by omega
          have hza : xb < (wo.alloc (.cells #[.int .i64 x.no, .int .i64 x.tm, .string x.paper, .string x.person, .int .i64 x.ans, .string x.words] 58)).heap.size := by rw [hxb]; simp
          clear hmap htk hko hsm hx hq hxb hwr hcw
          go_upto_region 10 with fail
          simp only [← HXB.out]
          generalize wo.alloc (.cells #[.int .i64 x.no, .int .i64 x.tm, .string x.paper, .string x.person, .int .i64 x.ans, .string x.words] 58) = wa at *
          clear c0 c1 c2 c3 c4 c5
          have e0q := cell_at (i := 0) hblk rfl
          have e2 := cell_at (i := 2) hblk rfl
          have e4 := cell_at (i := 4) hblk rfl
          have ec := cell_at (i := 0) hcm rfl
          by_cases hpk : x.paper = key
          · have g0 : (x.paper.toList == key.toList) = true := by simp [hpk]
            have HPK := Lib.hid hpk
            have hBa : B ≤ wa.heap.size := by omega
            obtain ⟨vp, hvp⟩ : ∃ vp, vp = vals x.ans := ⟨_, rfl⟩
            have HVP := Lib.hid hvp
            have haccp := hmapa.acc x.ans
            rw [← hvp] at haccp
            have HLK := Lib.hid (fun (wx : World) (hk : Kept (fun i => (vals x.ans).ownBlock ≠ some i) wa wx) => (show (Instr.lookup 140 (.map (some mb)) (.int .i64 x.ans) false).run Tryz.prog wx = .ok vp wx by rw [hvp]; exact MapI.lookAfter hmapa.map hk (fun e => by have := (hrow _ e).1; omega) Tryz.underlying3 Tryz.underlying140 (Tryz.zeroValue22 wx) hmapa.nil hans))
            have HEC := Lib.hid (fun (wx : World) (hk : Kept (fun i => (vals x.ans).ownBlock ≠ some i) wa wx) => hk.cell ec (fun e => by have := (hrow _ e).1; dsimp only at this; omega))
            have HEX := Lib.hid (fun (wx : World) (hk : Kept (fun i => (vals x.ans).ownBlock ≠ some i) wa wx) => (⟨hk.cell e0q (fun e => by have := (hrow _ e).2; dsimp only at this; omega), hk.cell e4 (fun e => by have := (hrow _ e).2; dsimp only at this; omega)⟩ : _ ∧ _))
            clear e0q e4 ec
            have hza2 : mb < wa.heap.size := by omega
            clear hvp hpk hblk hcm
            go_upto_region 11 with fail
            -- REGION11
            refine wp_region_invL 11 (by kernel_rfl) (by kernel_rfl) (by kernel_rfl) (ThrG wa (vals x.ans))
              (DL [QIs (.map (some mb)), QIs ((Value.pointer (some ⟨xb, 4, none⟩))), QIs (.int .i64 x.ans), QIs (.map (some mb)), QIs ((Value.pointer (some ⟨xb, 4, none⟩))), QIs (.int .i64 x.ans), QIs (vp), QIs ((Value.pointer (some ⟨xb, 0, none⟩))), QIs (.int .i64 x.no), DNew wa.heap.size x.no, DApp wa B mb n vals (kidsL (xs.take k) key) x.ans x.no]) (ThrM (vals x.ans)) ?_ ?_ ?_ ?_
            · intro i j v w w' hi hj hij hmm hd
              have hz : i = 0 ∨ i = 1 ∨ i = 2 ∨ i = 3 ∨ i = 4 ∨ i = 5 ∨ i = 6 ∨ i = 7 ∨ i = 8 ∨ i = 9 ∨ i = 10 := by omega
              rcases hz with rfl | rfl | rfl | rfl | rfl | rfl | rfl | rfl | rfl | rfl | rfl
              · exact hd
              · exact hd
              · exact hd
              · exact hd
              · exact hd
              · exact hd
              · exact hd
              · exact hd
              · exact hd
              · exact DNew.keep hd (fun i hi => by have := (hrow i hi).2; omega) hmm
              · exact DApp.keep hd (by rw [ThrM, if_neg (show ¬ j = 10 by omega)] at hmm; exact hmm)
            · exact ⟨Kept.drew _ _, fun _ => Kept.drew _ _⟩
            · intro i o t ho hd hi L a' wx hg hL hdf hts hoth hdeps
              have hz : i = 0 ∨ i = 1 ∨ i = 2 ∨ i = 3 ∨ i = 4 ∨ i = 5 ∨ i = 6 ∨ i = 7 ∨ i = 8 ∨ i = 9 ∨ i = 10 := by omega
              rcases hz with rfl | rfl | rfl | rfl | rfl | rfl | rfl | rfl | rfl | rfl | rfl
              · obtain rfl := Option.some.inj ho
                obtain rfl := Option.some.inj hd
                have e0 : a'.tmps.getD 9 undef = (Value.pointer (some ⟨cb, 0, none⟩)) := tmp_of ((hoth 9 (by decide)).trans rfl)
                have g1 := HEC.out wx hg.1
                clear hoth hdeps hdf hts ho
                refine wp_via (fun K' hK => ?_)
                have HK := Lib.hid hK
                clear hK
                go_simp
                exact HK.out _ _ ⟨_, rfl, thrG_same hg (by decide), Kept.refl _ _, rfl⟩
              · obtain rfl := Option.some.inj ho
                obtain rfl := Option.some.inj hd
                have e0 : a'.tmps.getD 11 undef = (Value.pointer (some ⟨xb, 0, none⟩)) := tmp_of ((hoth 11 (by decide)).trans rfl)
                clear hoth hdeps hdf hts ho
                refine wp_via (fun K' hK => ?_)
                have HK := Lib.hid hK
                clear hK
                go_simp
                exact HK.out _ _ ⟨_, rfl, thrG_same hg (by decide), Kept.refl _ _, rfl⟩
              · obtain rfl := Option.some.inj ho
                obtain rfl := Option.some.inj hd
                have e0 : a'.tmps.getD 35 undef = (Value.pointer (some ⟨xb, 4, none⟩)) := hdeps 1 (by decide) 35 rfl
                have g1 := (HEX.out wx hg.1).2
                clear hoth hdeps hdf hts ho
                refine wp_via (fun K' hK => ?_)
                have HK := Lib.hid hK
                clear hK
                go_simp
                exact HK.out _ _ ⟨_, rfl, thrG_same hg (by decide), Kept.refl _ _, rfl⟩
              · obtain rfl := Option.some.inj ho
                obtain rfl := Option.some.inj hd
                have e0 : a'.tmps.getD 9 undef = (Value.pointer (some ⟨cb, 0, none⟩)) := tmp_of ((hoth 9 (by decide)).trans rfl)
                have g1 := HEC.out wx hg.1
                clear hoth hdeps hdf hts ho
                refine wp_via (fun K' hK => ?_)
                have HK := Lib.hid hK
                clear hK
                go_simp
                exact HK.out _ _ ⟨_, rfl, thrG_same hg (by decide), Kept.refl _ _, rfl⟩
              · obtain rfl := Option.some.inj ho
                obtain rfl := Option.some.inj hd
                have e0 : a'.tmps.getD 11 undef = (Value.pointer (some ⟨xb, 0, none⟩)) := tmp_of ((hoth 11 (by decide)).trans rfl)
                clear hoth hdeps hdf hts ho
                refine wp_via (fun K' hK => ?_)
                have HK := Lib.hid hK
                clear hK
                go_simp
                exact HK.out _ _ ⟨_, rfl, thrG_same hg (by decide), Kept.refl _ _, rfl⟩
              · obtain rfl := Option.some.inj ho
                obtain rfl := Option.some.inj hd
                have e0 : a'.tmps.getD 38 undef = (Value.pointer (some ⟨xb, 4, none⟩)) := hdeps 4 (by decide) 38 rfl
                have g1 := (HEX.out wx hg.1).2
                clear hoth hdeps hdf hts ho
                refine wp_via (fun K' hK => ?_)
                have HK := Lib.hid hK
                clear hK
                go_simp
                exact HK.out _ _ ⟨_, rfl, thrG_same hg (by decide), Kept.refl _ _, rfl⟩
              · obtain rfl := Option.some.inj ho
                obtain rfl := Option.some.inj hd
                have e0 : a'.tmps.getD 37 undef = .map (some mb) := hdeps 3 (by decide) 37 rfl
                have e1 : a'.tmps.getD 39 undef = .int .i64 x.ans := hdeps 5 (by decide) 39 rfl
                have g1 := HLK.out wx hg.1
                clear hoth hdeps hdf hts ho
                refine wp_via (fun K' hK => ?_)
                have HK := Lib.hid hK
                clear hK
                go_simp
                exact HK.out _ _ ⟨_, rfl, thrG_same hg (by decide), Kept.refl _ _, rfl⟩
              · obtain rfl := Option.some.inj ho
                obtain rfl := Option.some.inj hd
                have e0 : a'.tmps.getD 11 undef = (Value.pointer (some ⟨xb, 0, none⟩)) := tmp_of ((hoth 11 (by decide)).trans rfl)
                clear hoth hdeps hdf hts ho
                refine wp_via (fun K' hK => ?_)
                have HK := Lib.hid hK
                clear hK
                go_simp
                exact HK.out _ _ ⟨_, rfl, thrG_same hg (by decide), Kept.refl _ _, rfl⟩
              · obtain rfl := Option.some.inj ho
                obtain rfl := Option.some.inj hd
                have e0 : a'.tmps.getD 41 undef = (Value.pointer (some ⟨xb, 0, none⟩)) := hdeps 7 (by decide) 41 rfl
                have g1 := (HEX.out wx hg.1).1
                clear hoth hdeps hdf hts ho
                refine wp_via (fun K' hK => ?_)
                have HK := Lib.hid hK
                clear hK
                go_simp
                exact HK.out _ _ ⟨_, rfl, thrG_same hg (by decide), Kept.refl _ _, rfl⟩
              · obtain rfl := Option.some.inj ho
                obtain rfl := Option.some.inj hd
                have e0 : a'.tmps.getD 42 undef = .int .i64 x.no := hdeps 8 (by decide) 42 rfl
                have e0' : a'.tmps[42]?.getD undef = .int .i64 x.no := by rw [← Array.getD_eq_getD_getElem?]; exact e0
                have hszx := hg.1.size
                clear hoth hdeps hdf hts ho
                refine wp_via (fun K' hK => ?_)
                have HK := Lib.hid hK
                clear hK
                go_simp
                exact HK.out _ _ ⟨_, rfl, thrG_alloc hg (by decide) _, Kept.alloc _ _ _, ⟨wx.heap.size, rfl, hszx, heap_at _ _ _ rfl⟩⟩
              · obtain rfl := Option.some.inj ho
                obtain rfl := Option.some.inj hd
                have e40 : a'.tmps.getD 40 undef = vp := hdeps 6 (by decide) 40 rfl
                obtain ⟨nb, e43, hnb1, hnb⟩ : DNew wa.heap.size x.no (a'.tmps.getD 43 undef) wx := hdeps 9 (by decide) 43 rfl
                have hallx : All wa wx := hg.2 hL
                have hszx := hallx.size
                have hmapx : LI _ _ _ _ _ _ := RowI.keep flatInt hmapa hallx
                have haccx := haccp.keepAll RInt.ok hallx
                clear hoth hdeps hdf hts ho
                refine wp_via (fun K' hK => ?_)
                have HK := Lib.hid hK
                clear hK
                refine op_append1 RInt.ok wx _ _ _ rfl B 3 (.int .i64 0) 1 8 Tryz.underlying22 (by kernel_rfl) rfl (by decide) (fun _ => False) _ (kidsL (xs.take k) key x.ans) e40 haccx ⟨nb, 0, none⟩ 1 [.int .i64 x.no] e43 rfl (World.news_of_block hnb) (by simp [Value.oneCell']) x.no rfl hfl (by decide) (by omega) ?_
                intro p7 c7 w7 hacc7 hgrow hat7
                rw [HVP.out] at hgrow hat7
                exact HK.out _ _ ⟨_, rfl, ⟨hg.1.grown hgrow (fun k hk => Or.inr (fun h => h hk)), fun h => absurd h (by simp)⟩, (Kept.refl _ _).grown hgrow (fun k hk => Or.inr (fun h => h hk)), ⟨wx, w7, p7, c7, rfl, hallx, hmapx, hacc7, hgrow, hat7, Kept.refl _ _⟩⟩
            · intro L wx f hg hd
              have e34 : f 34 = .map (some mb) := hd 0 34 (by decide) rfl
              have e36 : f 36 = .int .i64 x.ans := hd 2 36 (by decide) rfl
              obtain ⟨wy, w7, p7, c7, e44, hally, hmapy, hacc7, hgrow, hat7, hlat⟩ : DApp wa B mb n vals (kidsL (xs.take k) key) x.ans x.no (f 44) wx := hd 10 44 (by decide) rfl
              rw [show dsts _ 11 = [34, 35, 36, 37, 38, 39, 40, 41, 42, 43, 44] from by kernel_rfl]
              simp only [List.map_cons, List.map_nil, puts, Act.put, e34, e36, e44, List.drop_succ_cons, List.drop_zero]
              generalize f 35 = f35
              generalize f 37 = f37
              generalize f 38 = f38
              generalize f 39 = f39
              generalize f 40 = f40
              generalize f 41 = f41
              generalize f 42 = f42
              generalize f 43 = f43
              simp only [List.setIfInBounds_toArray, List.set_cons_zero, List.set_cons_succ]
              obtain ⟨w8, hput, hm8, hb8⟩ := RowI.putLate (te := 22) hmapy Tryz.underlying3 Tryz.underlying140 (by omega) hgrow hlat (by omega) hans (Value.slice p7 ((kidsL (xs.take k) key x.ans).length + 1) c7)
              have hpush := Lib.hid (RowI.pushLate flatInt hmapy (by omega) hacc7 hgrow hat7 hlat hm8 hb8)
              have hk8 : But mb w4 w8 := (((hwa.trans (Kept.all hally)).grown hgrow (fun k hk => Or.inl (by have := (hrow _ hk).1; omega))).trans (Kept.all hlat)).trans hb8
              have hfe := Lib.hid (show (fun q => if q = x.ans then kidsL (xs.take k) key x.ans ++ [x.no] else kidsL (xs.take k) key q) = kidsL (xs.take (k + 1)) key from funext fun q => by
                rw [HX.out, kidsL_snoc]
                by_cases hq : q = x.ans
                · subst hq; simp [HPK.out]
                · have hq' : ¬ x.ans = q := fun e => hq e.symm
                  simp [hq, hq'])
              clear hd e34 e36 e44 f hg hgrow hat7 hm8 hb8 hacc7 hmapy hmapa haccp hwa hally hlat e2 g0
              go_wp2_with fail
              go_roundw
              case rel => exact ⟨k + 1, by omega, by go_num, ⟨n + 1, _, by omega, by rw [← hfe.out]; exact hpush.out⟩, hk8⟩
              case measure => simp [intOf]; omega
            -- END11
          · have g0 := bytes_ne3 hpk
            have HPK := Lib.hid hpk
            clear hpk
            go_wp2_with fail
            go_roundw
            case rel => exact ⟨k + 1, by omega, by go_num, ⟨n, vals, by omega, by
              have : kidsL (xs.take (k + 1)) key = kidsL (xs.take k) key := funext fun t => by rw [HX.out, kidsL_snoc, if_neg (fun h => HPK.out h.1), List.append_nil]
              rw [this]
              exact hmapa⟩, hwa⟩
            case measure => simp [intOf]; omega
        · have hd : decide ((k : Int) < (len : Int)) = false := by simp; omega
          rw [List.take_of_length_le (show xs.length ≤ k by have := Hlen.out; omega)] at hmap
          have hqo := Hend.out _ hwr
          have hszo := hqo.size
          have hz9 := hwr.size
          have hlen2 : xs.length ≤ 2000 := postsF_len HFE.out.symm
          have hcw := hwr.heap HCM.out (show cb ≠ mb by omega)
          have HQO := Lib.hid hqo
          have HSND := Lib.hid HFE.out.symm
          obtain ⟨ob, hob⟩ : ∃ q, q = wo.heap.size := ⟨_, rfl⟩
          have HOBE := Lib.hid hob
          have hk5 : All wo (wo.alloc (.cells #[.slice none 0 0] 82)) := Kept.alloc _ _ _
          have hbo := heap_at wo (.cells #[.slice none 0 0] 82) ob hob
          have hob5 : ob < (wo.alloc (.cells #[.slice none 0 0] 82)).heap.size := by rw [hob]; simp
          have hcm5 := hk5.heap hcw trivial
          have hmap5 : LI _ _ _ _ _ _ := RowI.keep flatInt hmap hk5
          have hown : ∀ t i, (vals t).ownBlock = some i → i < ob := fun t i hi => by rw [hob]; exact ((hmap.acc t).lt i hi).2
          have hobq : wq.heap.size ≤ ob ∧ B ≤ ob := by omega
          clear hob hwr hcw hmap hqo
          go_upto_region 14 with fail
          simp only [← HOBE.out]
          generalize wo.alloc (.cells #[.slice none 0 0] 82) = w5 at *
          have hn9 := heap_at w5 (.cells #[.nilFunc] 141) _ rfl
          have q0 := cell_at (i := 0) hn9 rfl
          have q1 := frozen_at (i := 0) hn9
          have hst : (store ⟨w5.heap.size, 0, none⟩ (.func (.func 91) #[] #[.pointer (some ⟨cb, 0, none⟩), .pointer (some ⟨ob, 0, none⟩), .pointer (some ⟨w5.heap.size, 0, none⟩)])).run Tryz.prog (w5.alloc (.cells #[.nilFunc] 141)) = .ok () (w5.alloc (.cells #[.func (.func 91) #[] #[.pointer (some ⟨cb, 0, none⟩), .pointer (some ⟨ob, 0, none⟩), .pointer (some ⟨w5.heap.size, 0, none⟩)]] 141)) := by
            rw [run_store _ _ _ _ _ rfl, q0]
            simp [q1, World.setCell_alloc_at]
          have hk6 : All w5 (w5.alloc (.cells #[.func (.func 91) #[] #[.pointer (some ⟨cb, 0, none⟩), .pointer (some ⟨ob, 0, none⟩), .pointer (some ⟨w5.heap.size, 0, none⟩)]] 141)) := Kept.alloc _ _ _
          obtain ⟨fb, hfb⟩ : ∃ q, q = w5.heap.size := ⟨_, rfl⟩
          have HFB := Lib.hid hfb
          rw [← hfb] at hk6
          have hbf := heap_at w5 (.cells #[.func (.func 91) #[] #[.pointer (some ⟨cb, 0, none⟩), .pointer (some ⟨ob, 0, none⟩), .pointer (some ⟨fb, 0, none⟩)]] 141) fb hfb
          have hbo6 := hk6.heap hbo trivial
          have hcm6 := hk6.heap hcm5 trivial
          have hmap6 : LI _ _ _ _ _ _ := RowI.keep flatInt hmap5 hk6
          have hz6 : (w5.alloc (.cells #[.func (.func 91) #[] #[.pointer (some ⟨cb, 0, none⟩), .pointer (some ⟨ob, 0, none⟩), .pointer (some ⟨fb, 0, none⟩)]] 141)).heap.size = fb + 1 := by rw [hfb]; simp
          have hobf : ob < fb := by omega
          have HK6 := Lib.hid (hk5.trans hk6)
          clear hfb hk5 hk6 hn9 q0 q1 hbo hcm5 hmap5
          go_upto_region 16 with fail
          clear hst
          simp only [← HFB.out]
          generalize w5.alloc (.cells #[.func (.func 91) #[] #[.pointer (some ⟨cb, 0, none⟩), .pointer (some ⟨ob, 0, none⟩), .pointer (some ⟨fb, 0, none⟩)]] 141) = w6 at *
          have hW : WalkAt cb ob fb mb B w6.heap.size n vals (kidsL xs key) w6 :=
            ⟨cell_at (i := 0) hcm6 rfl, cell_at (i := 0) hbf rfl, hmap6, by omega, fun t i hi => by have := hown t i hi; omega, Nat.le_refl _⟩
          have hO : OutAt ob w6.heap.size [] w6 := ⟨_, hbo6, Acc.nil _ _ _ _ _ _⟩
          have HT1 := Lib.hid (thread1_any HSND.out hlen2 (xs.length + 1) 0 0 [] w6 (Nat.zero_le _) (by omega) (Nat.le_refl _) hW hO (by have := thread_len (key := key) HSND.out; unfold threadN at this; simp only [List.length_nil]; omega))
          have e0 := hW.fn
          have hlowb : ∀ i, i < wq.heap.size → i < w6.heap.size ∧ i ≠ ob := fun i hi => by omega
          have hzq : w.heap.size ≤ w6.heap.size := by omega
          have eg : ∀ args w, (callFunc 91 args).run Tryz.prog w = .ok (.enter 91 args) w := enters_of Tryz.func91 (by kernel_rfl) rfl
          clear hW hO hbf hbo6 hcm6 hmap6 hown
          go_wp2_with fail
          refine HT1.out.mono ?_
          rintro e w7 ⟨rfl, ⟨v, hbv, hacc⟩, hk7⟩
          have e1 := cell_at (i := 0) hbv rfl
          have HAC := Lib.hid (hacc.base hzq)
          have HALL := Lib.hid ((HK1.out.trans (HQO.out.trans HK6.out)).trans2 hk7 (fun i hi _ => hlowb i (by omega)))
          clear hacc hbv hk7 e0
          go_wp2_with fail
          go_ret2
          exact ⟨fun h => absurd HE0.out h, fun _ => ⟨_, rfl, by rw [threadL, threadN, ← List.nil_append ((thr _ _ _ _).map pairZ)]; exact HAC.out⟩, HALL.out⟩
  · have hne : (fe != 0) = true := by simpa using hf0
    have HE := Lib.hid (show er = fe from by rw [HER.out, if_pos hf0])
    have HF0 := Lib.hid hf0
    clear hf0
    go_wp2_with fail
    go_ret2
    exact ⟨fun _ => by rw [HE.out]; rfl, fun h => absurd (HE.out.symm.trans h) HF0.out, HK1.out.trans hw2⟩
end Go.Proofs.YtllkemadaemjeaaGreatDoor

/- ThreadOf's ways up (ThreadOf$1) and their order (ThreadOf$2). -/
namespace Go.Proofs.YtllkemadaemjeaaGreatDoor
open Go.RowKit

theorem wayZ_zero (xs : List Post6) : wayZ xs (0 : Nat) = [] := rfl
theorem wayZ_step {bd : Board4} {xs : List Post6} (h : postsF bd xs = 0) {q : Nat} {x : Post6} (hx : xs[q]? = some x) : ∃ m : Nat, x.ans = (m : Int) ∧ m ≤ q ∧ wayZ xs ((q + 1 : Nat) : Int) = wayZ xs (m : Int) ++ [((q + 1 : Nat) : Int)] := by
  have hu := upF_lt h (show 0 < q + 1 by omega)
  have hs := wayN_step h (show 0 < q + 1 by omega)
  have e : upF xs (q + 1) = x.ans.toNat := by
    unfold upF
    rw [show q + 1 - 1 = q by omega, hx]
  have h0 : 0 ≤ x.ans := by
    by_cases h0 : x.ans = 0
    · omega
    · obtain ⟨r, _, h1, _⟩ := sound_ans h hx h0
      omega
  refine ⟨x.ans.toNat, by omega, by omega, ?_⟩
  unfold wayZ
  rw [Int.toNat_natCast, Int.toNat_natCast, hs, e, List.map_append]
  rfl

set_option maxHeartbeats 3200000 in
theorem way1_any {bd : Board4} {xs : List Post6} (hsnd : postsF bd xs = 0) (hlen : xs.length ≤ 2000) (lb : Nat) (a : Option Addr) (len cap : Nat) (n : Nat) (hn : n ≤ xs.length) (w : World) (hs : Sl RPost 6 (fun _ => True) w a len xs) (hc : w.cell? ⟨lb, 0, none⟩ = some (.slice a len cap)) :
    Calls Tryz.prog 93 #[.int .i64 n, .pointer (some ⟨lb, 0, none⟩)] w fun e w' => (∃ p c, e = .returned (.slice p (wayZ xs n).length c) ∧ Sl RInt 1 (fun _ => True) w' p (wayZ xs n).length (wayZ xs n)) ∧ AllD w w' := by
  have Hlen := Lib.hid hs.len
  have HN := Lib.hid hn
  have HSN := Lib.hid hsnd
  have hwl := wayZ_len xs n
  have HWL := Lib.hid (show (wayZ xs n).length ≤ 2000 by simp at hwl; omega)
  have HC := Lib.hid hc
  have HS := Lib.hid hs
  clear hsnd hn hwl hc hs
  go_enter Tryz.func93, Tryz.ntmps93
  go_wp2_with fail
  go_loopw [0, 4] (fun i v wr => ∃ (m : Nat) (rest : List Int) (p : Option Addr) (c : Nat), m ≤ len ∧ i = .int .i64 m ∧ v = .slice p rest.length c ∧ Sl RInt 1 (fun _ => True) wr p rest.length rest ∧ Hid (wayZ xs n = wayZ xs m ++ rest) ∧ AllD w wr) (fun i _ _ => (intOf i).toNat)
  case atStart => exact ⟨n, [], none, 0, by have := HN.out; have := Hlen.out; omega, rfl, rfl, ⟨rfl, fun h => absurd h (by simp)⟩, Lib.hid (by simp), AllD.refl _⟩
  case round =>
    obtain ⟨m, rest, p, c, hm, rfl, rfl, hsl, HW, hwr⟩ := hrel
    obtain ⟨wo, rfl⟩ : ∃ wo : World, wo = wr := ⟨_, rfl⟩
    obtain ⟨rl, hrl⟩ : ∃ r, r = rest.length := ⟨_, rfl⟩
    have HRL := Lib.hid hrl
    have hrb : rl ≤ 2000 := by
      have h1 := HWL.out
      rw [HW.out, List.length_append] at h1
      omega
    rw [← hrl] at hsl ⊢
    clear hrl
    rcases Nat.eq_zero_or_pos m with h0 | h0
    · subst h0
      have hd : decide ((0 : Int) < ((0 : Nat) : Int)) = false := by simp
      have HW2 := Lib.hid (show wayZ xs n = rest by rw [HW.out, wayZ_zero]; rfl)
      have HSL := Lib.hid hsl
      clear hsl
      go_wp2_with fail
      go_ret
      exact ⟨⟨p, c, by rw [HW2.out, ← HRL.out]; rfl, by rw [HW2.out, ← HRL.out]; exact HSL.out⟩, hwr⟩
    · obtain ⟨q, rfl⟩ : ∃ q, m = q + 1 := ⟨m - 1, by omega⟩
      have hq2 : q < 2000 := by have := Hlen.out; omega
      have hc := hwr.1.cell HC.out trivial
      obtain ⟨pb, off, x, ha, -, c0, c1, c2, c3, c4, c5, -, hx, -⟩ := (HS.out.keep RPost.ok hwr.1).atPost (show q < len by omega)
      obtain ⟨m2, hm2, hm2q, hstep⟩ := wayZ_step HSN.out hx
      rw [hm2] at c4
      have HW2 := Lib.hid (show wayZ xs n = wayZ xs m2 ++ (((q + 1 : Nat) : Int) :: rest) by rw [HW.out, hstep, List.append_assoc]; rfl)
      obtain ⟨z, hz⟩ : ∃ z : Int, z = ((q + 1 : Nat) : Int) := ⟨_, rfl⟩
      have HZ := Lib.hid hz
      have d1 : decide ((0 : Int) < z) = true := by simp; omega
      have f1 : IntKind.i64.wrap (z - 1) = (q : Int) := by rw [hz, show (((q + 1 : Nat) : Int) - 1) = (q : Int) by omega]; exact IntWalk.i64_in _ (by omega)
      have f3 : (0 : Int) ≤ (q : Int) := by omega
      have f4 : (q : Int) < (len : Int) := by omega
      have HSL := Lib.hid hsl
      rw [← hz]
      rw [← hz] at HW2
      subst ha
      clear hz hsl hstep hx hm2 c0 c1 c2 c3 c5
      go_wp2_with (at_builtin; refine wp_appendFresh (wo.alloc (.cells #[.int .i64 z] 3)) rfl _ _ 22 rfl 3 8 Tryz.underlying22 (by kernel_rfl) wo.heap.size z rfl (cell_at (i := 0) (heap_alloc_new wo _) rfl) p rl c rest rfl (HSL.out.keep RInt.ok (Kept.alloc _ _ _)) (by omega) (by decide) ?_)
      intro p7 c7 w7 hs7 hw7
      have HS7 := Lib.hid hs7
      have hk7 : AllD w w7 := (hwr.then_alloc _).trans hw7
      have hc7 := hk7.1.cell HC.out trivial
      have c47 := ((Kept.alloc (fun _ => True) wo (.cells #[.int .i64 z] 3)).trans hw7.1).cell c4 trivial
      clear hs7 hw7 hwr hc c4
      go_wp2_with fail
      go_roundw
      case rel => exact ⟨m2, z :: rest, p7, c7, by omega, rfl, by rw [List.length_cons, ← HRL.out], by rw [List.length_cons, ← HRL.out]; exact HS7.out, HW2, hk7⟩
      case measure => simp [intOf]; have := HZ.out; omega

/-- The value is this one. -/
def DIs (u : Value) (v : Value) (_ : World) : Prop := v = u
theorem DIs.stays (u : Value) : Stays AllD (DIs u) := fun _ _ _ _ h => h
/-- A slice reads so. -/
def DWay (zs : List Int) (v : Value) (w : World) : Prop := ∃ p c, v = .slice p zs.length c ∧ Sl RInt 1 (fun _ => True) w p zs.length zs
theorem DWay.stays (zs : List Int) : Stays AllD (DWay zs) := fun _ _ _ k ⟨p, c, h1, h2⟩ => ⟨p, c, h1, h2.keep RInt.ok k.1⟩

set_option maxRecDepth 100000 in
set_option maxHeartbeats 3200000 in
theorem way2_any {bd : Board4} {xs : List Post6} (hsnd : postsF bd xs = 0) (hlen : xs.length ≤ 2000) (lb fb : Nat) (a : Option Addr) (len cap : Nat) (n m : Nat) (hn : n ≤ xs.length) (hm : m ≤ xs.length) (w : World) (hs : Sl RPost 6 (fun _ => True) w a len xs) (hc : w.cell? ⟨lb, 0, none⟩ = some (.slice a len cap))
    (hf : w.cell? ⟨fb, 0, none⟩ = some (.func (.func 93) #[] #[.pointer (some ⟨lb, 0, none⟩)])) :
    Calls Tryz.prog 95 #[.int .i64 n, .int .i64 m, .pointer (some ⟨fb, 0, none⟩)] w fun e w' => e = .returned (.int .i64 (cmpLI (wayZ xs n) (wayZ xs m))) ∧ AllD w w' := by
  have HW1 := Lib.hid (fun (i : Nat) (hi : i ≤ xs.length) (wx : World) (k : AllD w wx) => way1_any hsnd hlen lb a len cap i hi wx (hs.keep RPost.ok k.1) (k.1.cell hc trivial))
  have HF := Lib.hid (fun (wx : World) (k : AllD w wx) => k.1.cell hf trivial)
  have hl1 := wayZ_len xs n
  have hl2 := wayZ_len xs m
  have HL := Lib.hid (show (wayZ xs n).length ≤ 1000000 ∧ (wayZ xs m).length ≤ 1000000 by simp at hl1 hl2; omega)
  have HN := Lib.hid hn
  have HM := Lib.hid hm
  clear hsnd hs hc hf hl1 hl2 hn hm
  have eg : ∀ args w, (callFunc 93 args).run Tryz.prog w = .ok (.enter 93 args) w := enters_of Tryz.func93 (by kernel_rfl) rfl
  go_enter Tryz.func95, Tryz.ntmps95
  go_upto_region 1 with fail
  refine wp_region_inv 6 (by kernel_rfl) (by kernel_rfl) (by kernel_rfl) (fun _ wx => AllD w wx)
    (DL [DIs (.func (.func 93) #[] #[.pointer (some ⟨lb, 0, none⟩)]), DIs (.int .i64 n), DWay (wayZ xs n), DIs (.func (.func 93) #[] #[.pointer (some ⟨lb, 0, none⟩)]), DIs (.int .i64 m), DWay (wayZ xs m)]) AllD
    (DL.keep (by simp only [List.forall_mem_cons, List.not_mem_nil, false_implies, implies_true, and_true]; exact ⟨DIs.stays _, DIs.stays _, DWay.stays _, DIs.stays _, DIs.stays _, DWay.stays _⟩)) ?_ ?_ ?_
  · exact (AllD.refl _).then_drew
  · intro i o t ho hd hi k' a' wx hk' hg hdf hts hoth hdeps
    have hz : i = 0 ∨ i = 1 ∨ i = 2 ∨ i = 3 ∨ i = 4 ∨ i = 5 := by omega
    rcases hz with rfl | rfl | rfl | rfl | rfl | rfl
    · obtain rfl := Option.some.inj ho
      obtain rfl := Option.some.inj hd
      have e0 : a'.tmps.getD 2 undef = .pointer (some ⟨fb, 0, none⟩) := tmp_of ((hoth 2 (by decide)).trans rfl)
      have g0 := HF.out wx hg
      clear hoth hdeps hdf hts ho
      refine wp_via (fun K' hK => ?_)
      have HK := Lib.hid hK
      clear hK
      go_simp
      exact HK.out _ _ ⟨_, rfl, hg, AllD.refl _, rfl⟩
    · obtain rfl := Option.some.inj ho
      obtain rfl := Option.some.inj hd
      have e0 : a'.tmps.getD 0 undef = .int .i64 n := tmp_of ((hoth 0 (by decide)).trans rfl)
      clear hoth hdeps hdf hts ho
      refine wp_via (fun K' hK => ?_)
      have HK := Lib.hid hK
      clear hK
      go_simp
      exact HK.out _ _ ⟨_, rfl, hg, AllD.refl _, rfl⟩
    · obtain rfl := Option.some.inj ho
      obtain rfl := Option.some.inj hd
      have e0 : a'.tmps.getD 6 undef = .func (.func 93) #[] #[.pointer (some ⟨lb, 0, none⟩)] := hdeps 0 (by decide) 6 rfl
      have e1 : a'.tmps.getD 7 undef = .int .i64 n := hdeps 1 (by decide) 7 rfl
      clear hoth hdeps hdf hts ho
      refine wp_via (fun K' hK => ?_)
      have HK := Lib.hid hK
      clear hK
      go_simp
      refine (HW1.out n HN.out wx hg).mono ?_
      rintro e w4 ⟨⟨p, c, rfl, hsl⟩, hw4⟩
      exact HK.out _ _ ⟨_, rfl, hg.trans hw4, hw4, ⟨p, c, rfl, hsl⟩⟩
    · obtain rfl := Option.some.inj ho
      obtain rfl := Option.some.inj hd
      have e0 : a'.tmps.getD 2 undef = .pointer (some ⟨fb, 0, none⟩) := tmp_of ((hoth 2 (by decide)).trans rfl)
      have g0 := HF.out wx hg
      clear hoth hdeps hdf hts ho
      refine wp_via (fun K' hK => ?_)
      have HK := Lib.hid hK
      clear hK
      go_simp
      exact HK.out _ _ ⟨_, rfl, hg, AllD.refl _, rfl⟩
    · obtain rfl := Option.some.inj ho
      obtain rfl := Option.some.inj hd
      have e0 : a'.tmps.getD 1 undef = .int .i64 m := tmp_of ((hoth 1 (by decide)).trans rfl)
      clear hoth hdeps hdf hts ho
      refine wp_via (fun K' hK => ?_)
      have HK := Lib.hid hK
      clear hK
      go_simp
      exact HK.out _ _ ⟨_, rfl, hg, AllD.refl _, rfl⟩
    · obtain rfl := Option.some.inj ho
      obtain rfl := Option.some.inj hd
      have e0 : a'.tmps.getD 9 undef = .func (.func 93) #[] #[.pointer (some ⟨lb, 0, none⟩)] := hdeps 3 (by decide) 9 rfl
      have e1 : a'.tmps.getD 10 undef = .int .i64 m := hdeps 4 (by decide) 10 rfl
      clear hoth hdeps hdf hts ho
      refine wp_via (fun K' hK => ?_)
      have HK := Lib.hid hK
      clear hK
      go_simp
      refine (HW1.out m HM.out wx hg).mono ?_
      rintro e w4 ⟨⟨p, c, rfl, hsl⟩, hw4⟩
      exact HK.out _ _ ⟨_, rfl, hg.trans hw4, hw4, ⟨p, c, rfl, hsl⟩⟩
  · intro wx f hg hd
    obtain ⟨p1, c1, e8, s1⟩ : DWay (wayZ xs n) (f 8) wx := hd 2 8 (by decide) rfl
    obtain ⟨p2, c2, e11, s2⟩ : DWay (wayZ xs m) (f 11) wx := hd 5 11 (by decide) rfl
    rw [show dsts _ 6 = [6, 7, 8, 9, 10, 11] from by kernel_rfl]
    simp only [List.map_cons, List.map_nil, puts, Act.put, e8, e11, List.drop_succ_cons, List.drop_zero]
    generalize f 6 = f6
    generalize f 7 = f7
    generalize f 9 = f9
    generalize f 10 = f10
    obtain ⟨z1, hz1⟩ : ∃ z, z = (wayZ xs n).length := ⟨_, rfl⟩
    obtain ⟨z2, hz2⟩ : ∃ z, z = (wayZ xs m).length := ⟨_, rfl⟩
    have HCL := Lib.hid (compareL_any p1 z1 c1 p2 z2 c2 (wayZ xs n) (wayZ xs m) wx (by rw [hz1]; exact s1) (by rw [hz2]; exact s2) (by rw [hz1]; exact HL.out.1) (by rw [hz2]; exact HL.out.2))
    rw [← hz1, ← hz2]
    clear hd e8 e11 f s1 s2 hz1 hz2
    go_wp2_with fail
    refine HCL.out.mono ?_
    rintro e w5 ⟨rfl, hw5⟩
    go_wp2_with fail
    go_ret
    exact ⟨rfl, hg.trans hw5⟩
end Go.Proofs.YtllkemadaemjeaaGreatDoor

/- Flat elements, sorted and made compact: what is left, in order, each once. No program in sight. -/
namespace Go.Proofs.YtllkemadaemjeaaGreatDoor
open Go.RowKit Go.Sort

section
variable {α : Type}
theorem take_snoc {xs : List α} {k : Nat} {y : α} (h : xs[k]? = some y) : xs.take (k + 1) = xs.take k ++ [y] := by
  rw [List.take_add_one, h]; rfl
/-- What Compact leaves behind p. -/
def compG (eq : α → α → Bool) : α → List α → List α
  | _, [] => []
  | p, y :: l => if eq y p = true then compG eq y l else y :: compG eq y l
/-- What Compact leaves: an element that equals the one ahead of it is dropped. -/
def compL (eq : α → α → Bool) : List α → List α
  | [] => []
  | x :: l => x :: compG eq x l
theorem compG_snoc (eq : α → α → Bool) (y : α) : ∀ (l : List α) (p : α), compG eq p (l ++ [y]) = compG eq p l ++ (if eq y (l.getLastD p) = true then [] else [y])
  | [], p => by simp [compG]
  | z :: l, p => by
    have h := compG_snoc eq y l z
    have e : (z :: l).getLastD p = l.getLastD z := by cases l <;> rfl
    rw [List.cons_append, compG, compG, h, e]
    by_cases hz : eq z p = true
    · rw [if_pos hz, if_pos hz]
    · rw [if_neg hz, if_neg hz, List.cons_append]
theorem compL_next (eq : α → α → Bool) {xs : List α} {m : Nat} {x y : α} (hx : xs[m]? = some x) (hy : xs[m + 1]? = some y) : compL eq (xs.take (m + 2)) = if eq y x = true then compL eq (xs.take (m + 1)) else compL eq (xs.take (m + 1)) ++ [y] := by
  have e2 : xs.take (m + 2) = xs.take (m + 1) ++ [y] := by rw [List.take_add_one, hy]; rfl
  have e1 : xs.take (m + 1) = xs.take m ++ [x] := by rw [List.take_add_one, hx]; rfl
  rw [e2]
  cases hl : xs.take (m + 1) with
  | nil => rw [e1] at hl; simp at hl
  | cons z l =>
    have hlast : l.getLastD z = x := by
      have h1 : (z :: l).getLast? = some x := by rw [← hl, e1]; simp
      have h2 : (z :: l).getLast? = some (l.getLastD z) := by simp [List.getLast?_cons]
      rw [h2] at h1
      exact Option.some.inj h1
    rw [List.cons_append, compL, compL, compG_snoc, hlast]
    by_cases h : eq y x = true
    · rw [if_pos h, if_pos h, List.append_nil]
    · rw [if_neg h, if_neg h, List.cons_append]
theorem compL_len (eq : α → α → Bool) : ∀ l : List α, (compL eq l).length ≤ l.length
  | [] => Nat.le_refl _
  | x :: l => by
    have h : ∀ (l : List α) (p : α), (compG eq p l).length ≤ l.length := by
      intro l
      induction l with
      | nil => intro p; exact Nat.le_refl _
      | cons y l ih =>
        intro p
        have := ih y
        rw [compG]
        split
        · simp only [List.length_cons]; omega
        · simp only [List.length_cons]; omega
    have := h l x
    simp only [compL, List.length_cons]; omega
theorem compL_one (eq : α → α → Bool) {xs : List α} (h : xs.length < 2) : compL eq xs = xs := by
  match xs, h with
  | [], _ => rfl
  | [x], _ => rfl
/-- As long as no element equals the one ahead of it, all are left. -/
theorem compL_all (eq : α → α → Bool) {xs : List α} : ∀ {m : Nat}, m ≤ xs.length → (∀ (i : Nat) (x y : α), i + 1 < m → xs[i]? = some x → xs[i + 1]? = some y → eq y x = false) → compL eq (xs.take m) = xs.take m
  | 0, _, _ => by simp [compL]
  | 1, h, _ => by
    cases xs with
    | nil => simp [compL]
    | cons x l => simp [compL, compG]
  | m + 2, h, hn => by
    have hx : xs[m]? = some xs[m] := List.getElem?_eq_getElem (by omega)
    have hy : xs[m + 1]? = some xs[m + 1] := List.getElem?_eq_getElem (by omega)
    have e2 : xs.take (m + 2) = xs.take (m + 1) ++ [xs[m + 1]] := by rw [List.take_add_one, hy]; rfl
    rw [compL_next eq hx hy, if_neg (by simp [hn m _ _ (by omega) hx hy]), compL_all eq (m := m + 1) (by omega) (fun i x y hi => hn i x y (by omega)), e2]

/-- Compact at work: what stood before place j is squeezed to the front i of qs; from j - 1 on all is as it was. -/
structure Squash (eq : α → α → Bool) (xs qs : List α) (i j : Nat) : Prop where
  len : qs.length = xs.length
  pre : qs.take i = compL eq (xs.take (j + 1))
  il : (compL eq (xs.take (j + 1))).length = i
  rest : ∀ t, j ≤ t → qs[t]? = xs[t]?
  lt : i ≤ j
theorem Squash.start {eq : α → α → Bool} {xs : List α} {k : Nat} {x y : α} (hx : xs[k]? = some x) (hy : xs[k + 1]? = some y) (he : eq y x = true) (hn : compL eq (xs.take (k + 1)) = xs.take (k + 1)) : Squash eq xs xs (k + 1) (k + 1) := by
  have hk := (List.getElem?_eq_some_iff.1 hy).1
  have e := compL_next eq hx hy
  rw [if_pos he, hn] at e
  exact ⟨rfl, e.symm, by rw [e]; simp; omega, fun _ _ => rfl, Nat.le_refl _⟩
theorem Squash.drop {eq : α → α → Bool} {xs qs : List α} {i j : Nat} {x y : α} (h : Squash eq xs qs i j) (hx : xs[j]? = some x) (hy : xs[j + 1]? = some y) (he : eq y x = true) : Squash eq xs qs i (j + 1) := by
  have e := compL_next eq hx hy
  rw [if_pos he] at e
  exact ⟨h.len, by rw [e]; exact h.pre, by rw [e]; exact h.il, fun t ht => h.rest t (by omega), by have := h.lt; omega⟩
theorem Squash.keep {eq : α → α → Bool} {xs qs : List α} {i j : Nat} {x y : α} (h : Squash eq xs qs i j) (hx : xs[j]? = some x) (hy : xs[j + 1]? = some y) (he : eq y x = false) : Squash eq xs (qs.set i y) (i + 1) (j + 1) := by
  have hj := (List.getElem?_eq_some_iff.1 hy).1
  have hlt := h.lt
  have hl := h.len
  have e := compL_next eq hx hy
  rw [if_neg (by simp [he])] at e
  refine ⟨by simp [hl], ?_, by rw [e]; simp [h.il], fun t ht => ?_, by omega⟩
  · rw [e, ← h.pre, List.take_add_one, List.getElem?_set_self (by omega), List.take_set_of_le (Nat.le_refl _)]
    rfl
  · rw [List.getElem?_set_ne (by omega)]
    exact h.rest t (by omega)
theorem Squash.done {eq : α → α → Bool} {xs qs : List α} {i j : Nat} (h : Squash eq xs qs i j) (hj : xs.length ≤ j + 1) : qs.take i = compL eq xs := by
  rw [h.pre, List.take_of_length_le hj]

/-- The elements of xs in the order of cf, each of those that are alike once. -/
structure IsTidy (cf : α → α → Int) (xs out : List α) : Prop where
  rise : out.Pairwise fun x y => cf x y < 0
  sub : ∀ x ∈ out, x ∈ xs
  all : ∀ x ∈ xs, ∃ y ∈ out, cf x y = 0
/-- What is asked of an order. -/
structure IsCmp (cf : α → α → Int) : Prop where
  zero : ∀ x y, cf x y = 0 → cf y x = 0
  refl : ∀ x, cf x x = 0
  neg : ∀ x y, 0 < cf x y → cf y x < 0
  lt : ∀ x y z, cf x y < 0 → cf y z ≤ 0 → cf x z < 0
  lt2 : ∀ x y z, cf x y ≤ 0 → cf y z < 0 → cf x z < 0
  eq : ∀ x y z, cf x y = 0 → cf y z = 0 → cf x z = 0
theorem IsCmp.swo {cf : α → α → Int} (h : IsCmp cf) : SWO (ltOf cf) where
  irrefl x := by simp [ltOf, h.refl x]
  trans x y z h1 h2 := by
    simp only [ltOf, decide_eq_true_eq] at *
    exact h.lt x y z h1 (Int.le_of_lt h2)
  ntrans x y z h1 h2 := by
    simp only [ltOf, decide_eq_false_iff_not, Int.not_lt] at *
    have gx : cf y x ≤ 0 := by
      rcases Int.lt_trichotomy (cf x y) 0 with e | e | e
      · omega
      · rw [h.zero _ _ e]; exact Int.le_refl _
      · exact Int.le_of_lt (h.neg _ _ e)
    have gy : cf z y ≤ 0 := by
      rcases Int.lt_trichotomy (cf y z) 0 with e | e | e
      · omega
      · rw [h.zero _ _ e]; exact Int.le_refl _
      · exact Int.le_of_lt (h.neg _ _ e)
    rcases Int.lt_or_le (cf x z) 0 with e | e
    · exfalso
      rcases Int.lt_or_le (cf z y) 0 with e2 | e2
      · have h3 := h.lt _ _ _ e2 gx
        have h4 := h.lt _ _ _ e (Int.le_of_lt h3)
        rw [h.refl] at h4; omega
      · have h0 : cf z y = 0 := by omega
        have h3 := h.lt _ _ _ e (by omega : cf z y ≤ 0)
        omega
    · exact e
theorem compG_mem (eq : α → α → Bool) : ∀ {l : List α} {p x : α}, x ∈ compG eq p l → x ∈ l
  | [], _, _, h => by simp [compG] at h
  | y :: l, p, x, h => by
    rw [compG] at h
    split at h
    · exact List.mem_cons_of_mem _ (compG_mem eq h)
    · rcases List.mem_cons.1 h with rfl | h
      · simp
      · exact List.mem_cons_of_mem _ (compG_mem eq h)
/-- Behind a sort, Compact leaves the elements in order, each of those that are alike once. -/
theorem IsTidy.of_sorted {cf : α → α → Int} (hc : IsCmp cf) {xs : List α} (hs : xs.Pairwise fun x y => cf x y ≤ 0) : IsTidy cf xs (compL (fun a b => decide (cf a b = 0)) xs) := by
  have key : ∀ (l : List α) (p : α), (p :: l).Pairwise (fun x y => cf x y ≤ 0) → (p :: compG (fun a b => decide (cf a b = 0)) p l).Pairwise (fun x y => cf x y < 0) ∧ ∀ x ∈ p :: l, ∃ y ∈ p :: compG (fun a b => decide (cf a b = 0)) p l, cf x y = 0 := by
    intro l
    induction l with
    | nil => exact fun p _ => ⟨by simp [compG], fun x hx => ⟨p, by simp [compG], by simp at hx; rw [hx]; exact hc.refl p⟩⟩
    | cons y l ih =>
      intro p hp
      have hp0 := List.pairwise_cons.1 hp
      have hp1 := List.pairwise_cons.1 hp0.2
      obtain ⟨i1, i2⟩ := ih y hp0.2
      rw [compG]
      by_cases he : cf y p = 0
      · rw [if_pos (by simp [he])]
        have i3 := List.pairwise_cons.1 i1
        refine ⟨List.pairwise_cons.2 ⟨fun z hz => ?_, i3.2⟩, fun x hx => ?_⟩
        · exact hc.lt2 p y z (by rw [hc.zero _ _ he]; exact Int.le_refl _) (i3.1 z hz)
        · rcases List.mem_cons.1 hx with rfl | hx
          · exact ⟨x, by simp, hc.refl x⟩
          · obtain ⟨z, hz, h0⟩ := i2 x hx
            rcases List.mem_cons.1 hz with rfl | hz
            · exact ⟨p, by simp, hc.eq _ _ _ h0 he⟩
            · exact ⟨z, by simp [hz], h0⟩
      · rw [if_neg (by simp [he])]
        have hpy : cf p y < 0 := by
          have h1 := hp0.1 y (by simp)
          have h2 : cf p y ≠ 0 := fun e => he (hc.zero _ _ e)
          omega
        refine ⟨List.pairwise_cons.2 ⟨fun z hz => ?_, i1⟩, fun x hx => ?_⟩
        · rcases List.mem_cons.1 hz with rfl | hz
          · exact hpy
          · exact hc.lt p y z hpy (Int.le_of_lt ((List.pairwise_cons.1 i1).1 z hz))
        · rcases List.mem_cons.1 hx with rfl | hx
          · exact ⟨x, by simp, hc.refl x⟩
          · obtain ⟨z, hz, h0⟩ := i2 x hx
            exact ⟨z, List.mem_cons_of_mem _ hz, h0⟩
  cases xs with
  | nil => exact ⟨by simp [compL], by simp [compL], by simp⟩
  | cons p l =>
    obtain ⟨h1, h2⟩ := key l p hs
    refine ⟨h1, fun x hx => ?_, h2⟩
    rcases List.mem_cons.1 hx with rfl | hx
    · simp
    · exact List.mem_cons_of_mem _ (compG_mem _ hx)
theorem IsTidy.perm {cf : α → α → Int} {xs ys out : List α} (h : IsTidy cf ys out) (hp : ys.Perm xs) : IsTidy cf xs out :=
  ⟨h.rise, fun x hx => hp.mem_iff.1 (h.sub x hx), fun x hx => h.all x (hp.mem_iff.2 hx)⟩
end

/-- Function value g with what it has captured compares by eq those of xs, as long as the blocks that G names are as in w; it leaves what was there as it was. -/
def AnswersE {α : Type} (P : Program) (g : FuncId) (caps : Array Value) (G : Nat → Prop) (w : World) (val : α → Value) (eq : α → α → Bool) (xs : List α) : Prop :=
  ∀ x ∈ xs, ∀ y ∈ xs, ∀ wx, Kept G w wx → Calls P g (#[val x, val y] ++ caps) wx fun e w' => e = .returned (.bool (eq x y)) ∧ All wx w'

section
variable {α : Type} [Inhabited α] {R : Rel α} {enc : α → List Value} {S : α → Prop} {sz : Nat} {T : TypeId} {F : Nat → Prop} {B : Nat} {w : World} {v : Value} {xs : List α}
theorem flatK_at (hl : ∀ x, (enc x).length = sz) (hp : 0 < sz) (d : Array α) (i : Nat) (hi : i < d.size) : ((flatK enc sz d).toList.drop (i * sz)).take sz = enc d[i]! := by
  have hg : ∀ t, t < d.size * sz → (flatK enc sz d).toList[t]? = some ((enc d[t / sz]!)[t % sz]!) := fun t ht => by
    rw [Array.getElem?_toList, Array.getElem?_eq_getElem (by simpa using ht)]
    have := get_flatK enc sz d t ht
    rw [getElem!_pos _ t (by simpa using ht)] at this
    rw [this]
  apply List.ext_getElem?
  intro j
  by_cases hj : j < sz
  · have hle : (i + 1) * sz ≤ d.size * sz := Nat.mul_le_mul_right _ hi
    rw [Nat.add_mul] at hle
    rw [List.getElem?_take_of_lt hj, List.getElem?_drop, hg _ (by omega)]
    have e1 : (i * sz + j) / sz = i := by
      rw [Nat.mul_comm, Nat.mul_add_div hp, Nat.div_eq_of_lt hj, Nat.add_zero]
    have e2 : (i * sz + j) % sz = j := by
      rw [Nat.mul_comm, Nat.mul_add_mod, Nat.mod_eq_of_lt hj]
    rw [e1, e2]
    have hj' : j < (enc d[i]!).length := by rw [hl]; exact hj
    rw [List.getElem?_eq_getElem hj', getElem!_pos _ j hj']
  · rw [List.getElem?_take_eq_none (by omega), List.getElem?_eq_none (by rw [hl]; omega)]
/-- A row of the call's own holds its elements, as a sort asks; what a sort leaves is such a row. -/
theorem Acc.sortable (hR : Flat R enc S sz) (h : Acc R sz T F B w v xs) :
    (v = .slice none 0 0 ∧ xs = []) ∨ ∃ g cap, v = .slice (some ⟨g, 0, none⟩) xs.length cap ∧ B ≤ g ∧ g < w.heap.size ∧ HoldsK enc sz w g 0 xs.toArray ∧ (∀ x ∈ xs, S x) ∧
      ∀ (d' : Array α) (n : Nat) (os : Array Obj), d'.size = xs.length → (∀ x ∈ d'.toList, S x) → Acc R sz T F B (sortWorldK enc sz w g 0 n d' os) v d'.toList ∧ w.grownBy (sortWorldK enc sz w g 0 n d' os) (some g) := by
  obtain ⟨cells, ho, he⟩ := h
  have hcl := ho.1
  have hE : ∀ (i : Nat) (hi : i < xs.length), (cells.drop (i * sz)).take sz = enc xs[i] ∧ S xs[i] := fun i hi => (hR.iff _ _ _ _).1 (he i hi)
  rcases ho.2 with ⟨rfl, h0⟩ | ⟨g, cap, cur, rfl, hbase, hb, h1, h2, h3, h4⟩
  · exact .inl ⟨rfl, List.eq_nil_of_length_eq_zero h0⟩
  · refine .inr ⟨g, cap, rfl, hbase, (Array.getElem?_eq_some_iff.1 hb).1, ?_, fun x hx => ?_, fun d' n os hd hS => ⟨⟨(flatK enc sz d').toList.map id, ?_, fun i hi => ?_⟩, grownE_sorted id _⟩⟩
    · have hfl : (flatK enc sz xs.toArray).toList = cells := by
        apply List.ext_getElem?
        intro t
        by_cases ht : t < xs.length * sz
        · have hi : t / sz < xs.length := Nat.div_lt_of_lt_mul (by rw [Nat.mul_comm]; exact ht)
          have e1 := flatK_at hR.len hR.pos xs.toArray (t / sz) (by simpa using hi)
          have e3 : xs.toArray[t / sz]! = xs[t / sz] := by simp [hi]
          rw [e3, ← (hE _ hi).1] at e1
          have e4 := congrArg (fun l => l[t % sz]?) e1
          have hm : t % sz < sz := Nat.mod_lt _ hR.pos
          simp only [List.getElem?_take_of_lt hm, List.getElem?_drop] at e4
          have e5 : t / sz * sz + t % sz = t := by rw [Nat.mul_comm]; exact Nat.div_add_mod t sz
          rw [e5] at e4
          exact e4
        · rw [List.getElem?_eq_none (by simp; omega), List.getElem?_eq_none (by omega)]
      have h5 : Holds id w g 0 ((flatK enc sz xs.toArray).toList).toArray := holdsE_of_block id hb (by rw [hfl, List.map_id, hcl]; exact h4)
      simpa [HoldsK] using h5
    · obtain ⟨i, hi, rfl⟩ := List.getElem_of_mem hx
      exact (hE i hi).2
    · have hs := ownsRowE_sorted id (w := w) (base := B) (g := g) (cap := cap) (n := n) (m := xs.length) (sz := sz) (e := T) (os := os) (cur := cur) (ts := (flatK enc sz d').toList) (by simp [hd]) hbase hb h1 h2 h3
      simpa [hd, sortWorldK, putRowK] using hs
    · have hi' : i < d'.size := by simpa using hi
      refine (hR.iff _ _ _ _).2 ⟨?_, hS _ (List.getElem_mem _)⟩
      rw [List.map_id, flatK_at hR.len hR.pos d' i hi']
      simp [hi']
end
theorem perm_list {α : Type} [Inhabited α] {xs : List α} {d' : Array α} (hp : PermIn 0 xs.length xs.toArray d') : d'.size = xs.length ∧ d'.toList.Perm xs := by
  obtain ⟨h1, -, h3⟩ := hp
  have h1' : d'.size = xs.length := by simpa using h1
  refine ⟨h1', ?_⟩
  have e1 : (d'.extract 0 xs.length).toList = d'.toList := by rw [← h1']; simp
  have e2 : (xs.toArray.extract 0 xs.length).toList = xs := by simp
  rw [e1, e2] at h3
  exact h3
theorem sorted_list {α : Type} [Inhabited α] {cf : α → α → Int} (hc : IsCmp cf) {n : Nat} {d' : Array α} (hs : SortedIn (ltOf cf) 0 n d') (hn : d'.size = n) : d'.toList.Pairwise fun x y => cf x y ≤ 0 := by
  rw [List.pairwise_iff_getElem]
  intro i j hi hj hij
  have hi' : i < d'.size := by simpa using hi
  have hj' : j < d'.size := by simpa using hj
  have h := hs i j (Nat.zero_le _) hij (by omega)
  rw [getElem!_pos d' i hi', getElem!_pos d' j hj'] at h
  simp only [ltOf, decide_eq_false_iff_not, Int.not_lt] at h
  simp only [Array.getElem_toList]
  rcases Int.lt_or_le 0 (cf d'[j] d'[i]) with e | e
  · exact Int.le_of_lt (hc.neg _ _ e)
  · rw [hc.zero _ _ (by omega : cf d'[j] d'[i] = 0)]; exact Int.le_refl _
end Go.Proofs.YtllkemadaemjeaaGreatDoor

/- slices.SortFunc of ints by a function that may lay blocks. -/
namespace Go.Proofs.YtllkemadaemjeaaGreatDoor
open Go.RowKit Go.Sort

/-- The function value g compares by cf: in each world that is as w but for block gb. -/
def CmpAt {α : Type} (P : Program) (g : FuncId) (caps : Array Value) (val : α → Int) (cf : α → α → Int) (gb : Nat) (w : World) : Prop :=
  ∀ x y wx, Kept (fun k => k ≠ gb) w wx → Calls P g (#[.int .i64 (val x), .int .i64 (val y)] ++ caps) wx fun e w' => e = .returned (.int .i64 (cf x y)) ∧ AllD wx w'
theorem CmpAt.lays {α : Type} [Inhabited α] {P : Program} {g : FuncId} {caps : Array Value} {val : α → Int} {cf : α → α → Int} {gb size : Nat} {w : World} (h : CmpAt P g caps val cf gb w) : CmpLays1 P g caps (fun x => Value.int .i64 (val x)) cf gb 0 size w := by
  intro m os dk _ x y
  have hg : w.grownBy (sortWorld (fun x => Value.int .i64 (val x)) w gb 0 m dk os) (some gb) := grownE_sorted _ _
  refine (h x y _ ((Kept.refl (fun k => k ≠ gb) w).grown hg (fun k hk => by cases hk; exact Or.inr (by simp)))).mono ?_
  rintro e w' ⟨rfl, hw⟩
  exact ⟨rfl, hw.grow⟩

theorem sortZ_any {α : Type} [Inhabited α] {T : TypeId} {F : Nat → Prop} {B : Nat} (val : α → Int) (cf : α → α → Int) (hO : IsCmp cf) (g : FuncId) (caps : Array Value) (eg : ∀ args w, (callFunc g args).run Tryz.prog w = .ok (.enter g args) w) (v : Value) (zs : List α) (w : World) (h : Acc RInt 1 T F B w v (zs.map val)) (hl : zs.length ≤ 1000000) (hcmp : ∀ g0, v.ownBlock = some g0 → CmpAt Tryz.prog g caps val cf g0 w) :
    Calls Tryz.prog 94 #[v, .func (.func g) #[] caps] w fun e w' => e = .returned (.tuple #[]) ∧ ∃ qs : List α, qs.Perm zs ∧ qs.Pairwise (fun x y => cf x y ≤ 0) ∧ Acc RInt 1 T F B w' v (qs.map val) ∧ w.grownBy w' v.ownBlock := by
  have ho := h.intCells
  rcases ho.2 with ⟨rfl, h0⟩ | ⟨g0, cap, cur, rfl, hbase, hb, h1, h2, h3, h4⟩
  · have hnil : zs = [] := List.eq_nil_of_length_eq_zero (by simpa using h0)
    subst hnil
    refine (Tryz.slices_SortFunc_int_none none 0 _ w).mono ?_
    rintro e w' ⟨rfl, rfl⟩
    exact ⟨rfl, [], List.Perm.refl _, List.Pairwise.nil, h, ⟨rfl, rfl, rfl, Nat.le_refl _, fun _ _ _ => rfl⟩⟩
  · simp only [List.length_map] at hb h1 h4 ⊢
    have hH : Holds (fun x => Value.int .i64 (val x)) w g0 0 zs.toArray := holdsE_of_block _ hb (by simpa [List.map_map, Function.comp_def] using h4)
    have hC := Tryz.slices_SortFunc_int (fun x : α => Value.int .i64 (val x)) (fun _ => rfl) cf hO.swo g caps g0 0 cap zs.toArray w eg (hcmp g0 rfl).lays hH (Array.getElem?_eq_some_iff.1 hb).1 (by simp; omega)
    simp only [List.size_toArray] at hC
    refine hC.mono ?_
    rintro e w' ⟨rfl, d', n, os, hp, hs, rfl⟩
    obtain ⟨hd, hperm⟩ := perm_list hp
    refine ⟨rfl, d'.toList, hperm, sorted_list hO hs hd, ?_, grownE_sorted _ _⟩
    have hs := ownsRowE_sorted (fun x : α => Value.int .i64 (val x)) (w := w) (base := B) (g := g0) (cap := cap) (n := n) (m := zs.length) (sz := 1) (e := T) (os := os) (cur := cur) (ts := d'.toList) (by simp [hd]) hbase hb h1 h2 h3
    apply Acc.ofIntCells
    rw [List.length_map, show d'.toList.length = zs.length by simp [hd]]
    simpa [List.map_map, Function.comp_def, sortWorld] using hs
end Go.Proofs.YtllkemadaemjeaaGreatDoor

/- ThreadOf answers threadL. -/
namespace Go.Proofs.YtllkemadaemjeaaGreatDoor
open Go.RowKit

theorem cmpLI_lt (a b : List Nat) : cmpLI (a.map fun k : Nat => (k : Int)) (b.map fun k : Nat => (k : Int)) < 0 ↔ lexL a b = true := by
  have h1 := cmpLI_lex a b
  have h2 := cmpLI_zero (a.map fun k : Nat => (k : Int)) (b.map fun k : Nat => (k : Int))
  have hinj : ∀ {l m : List Nat}, l.map (fun k : Nat => (k : Int)) = m.map (fun k : Nat => (k : Int)) → l = m := by
    intro l
    induction l with
    | nil => intro m h; cases m with
      | nil => rfl
      | cons _ _ => simp at h
    | cons x l ih => intro m h; cases m with
      | nil => simp at h
      | cons y m =>
        simp only [List.map_cons, List.cons.injEq] at h
        rw [ih h.2, show x = y by omega]
  constructor
  · intro h
    have hba := h1.1 (by omega)
    cases hab : lexL a b with
    | true => rfl
    | false =>
      have := lexL_total hab hba
      subst this
      have := h2.2 rfl
      omega
  · intro h
    have hba : lexL b a = false := by
      cases hb : lexL b a with
      | false => rfl
      | true =>
        have := lexL_trans h hb
        rw [lexL_irrefl] at this
        cases this
    have h3 := h1.2 hba
    have h4 : cmpLI (a.map fun k : Nat => (k : Int)) (b.map fun k : Nat => (k : Int)) ≠ 0 := fun e => by
      have := hinj (h2.1 e)
      subst this
      rw [lexL_irrefl] at h
      cases h
    omega
theorem ways_cmp {α : Type} (g : α → List Nat) : IsCmp (fun x y : α => cmpLI ((g x).map fun k : Nat => (k : Int)) ((g y).map fun k : Nat => (k : Int))) where
  zero x y h := (cmpLI_zero _ _).2 ((cmpLI_zero _ _).1 h).symm
  refl x := (cmpLI_zero _ _).2 rfl
  neg x y h := (cmpLI_lt _ _).2 (by
    cases hl : lexL (g y) (g x) with
    | true => rfl
    | false => have := (cmpLI_lex _ _).2 hl; omega)
  lt x y z h1 h2 := by
    rw [cmpLI_lt] at h1 ⊢
    have h3 := (cmpLI_lex _ _).1 h2
    cases hl : lexL (g y) (g z) with
    | true => exact lexL_trans h1 hl
    | false => rw [← lexL_total hl h3]; exact h1
  lt2 x y z h1 h2 := by
    rw [cmpLI_lt] at h2 ⊢
    have h3 := (cmpLI_lex _ _).1 h1
    cases hl : lexL (g x) (g y) with
    | true => exact lexL_trans hl h2
    | false => rw [lexL_total hl h3]; exact h2
  eq x y z h1 h2 := (cmpLI_zero _ _).2 (((cmpLI_zero _ _).1 h1).trans ((cmpLI_zero _ _).1 h2))
theorem lift_list {α β : Type} (val : α → β) : ∀ {l : List β}, (∀ z ∈ l, ∃ a, val a = z) → ∃ zs : List α, zs.map val = l
  | [], _ => ⟨[], rfl⟩
  | z :: l, h => by
    obtain ⟨a, ha⟩ := h z (by simp)
    obtain ⟨zs, has⟩ := lift_list val (fun y hy => h y (List.mem_cons_of_mem _ hy))
    exact ⟨a :: zs, by simp [ha, has]⟩
/-- A number that some post may bear. -/
abbrev NoOf (xs : List Post6) : Type := { n : Nat // n ≤ xs.length }
instance (xs : List Post6) : Inhabited (NoOf xs) := ⟨⟨0, Nat.zero_le _⟩⟩
abbrev noVal {xs : List Post6} (a : NoOf xs) : Int := (a.1 : Int)
theorem nos_lift {bd : Board4} {xs : List Post6} (h : postsF bd xs = 0) (key : ByteArray) : ∃ zs : List (NoOf xs), zs.map noVal = nosL xs key :=
  lift_list _ (fun z hz => by
    obtain ⟨k, x, hx, -, rfl⟩ := (nosL_mem h).1 hz
    exact ⟨⟨k + 1, by have := (List.getElem?_eq_some_iff.1 hx).1; omega⟩, by show ((k + 1 : Nat) : Int) = _; omega⟩)
/-- One line of a thread. -/
def lineF (xs : List Post6) (n : Int) : Int × Int := (n, ((wayZ xs n).length : Int) - 1)
theorem line_snoc {xs : List Post6} {ss : List Int} {k : Nat} {n : Int} (h : ss[k]? = some n) : (ss.take (k + 1)).map (lineF xs) = (ss.take k).map (lineF xs) ++ [lineF xs n] := by
  rw [List.take_add_one, h, List.map_append]
  rfl

set_option maxRecDepth 100000 in
set_option maxHeartbeats 12800000 in
theorem threadOf_any {bd : Board4} {xs : List Post6} (hsnd : postsF bd xs = 0) (hlen : xs.length ≤ 2000) (a : Option Addr) (len cap : Nat) (key : ByteArray) (w : World) (hs : Sl RPost 6 (fun _ => True) w a len xs) :
    Calls Tryz.prog 46 #[.slice a len cap, .string key] w fun e w' => (∃ v, e = .returned v ∧ Acc RLine 2 91 (fun _ => False) w.heap.size w' v (threadL xs key)) ∧ All w w' := by
  have Hlen := Lib.hid hs.len
  have hlb2 : len ≤ 2000 := by have := Hlen.out; omega
  have HSN := Lib.hid hsnd
  obtain ⟨lb, hlb⟩ : ∃ k, k = w.heap.size := ⟨_, rfl⟩
  have HLB := Lib.hid hlb
  have hk0 : All w (w.alloc (.cells #[.slice a len cap] 52)) := Kept.alloc _ _ _
  have hcl := heap_at w (.cells #[.slice a len cap] 52) lb hlb
  have hs1 := (((hs.live RPost.ok (by decide)).mono RPost.ok (G := fun k => k < w.heap.size) (fun k hk => hk.2)).keep RPost.ok (Kept.all hk0))
  have hz0 : w.heap.size < (w.alloc (.cells #[.slice a len cap] 52)).heap.size := by simp
  have eg : ∀ args w, (callFunc 95 args).run Tryz.prog w = .ok (.enter 95 args) w := enters_of Tryz.func95 (by kernel_rfl) rfl
  have eg1 : ∀ args w, (callFunc 93 args).run Tryz.prog w = .ok (.enter 93 args) w := enters_of Tryz.func93 (by kernel_rfl) rfl
  have HEG := Lib.hid eg
  clear hs hsnd hlb eg
  go_enter Tryz.func46, Tryz.ntmps46
  go_upto_region 1 with fail
  simp only [← HLB.out]
  generalize w.alloc (.cells #[.slice a len cap] 52) = w1 at *
  have hn := heap_at w1 (.cells #[.nilFunc] 30) _ rfl
  have q0 := cell_at (i := 0) hn rfl
  have q1 := frozen_at (i := 0) hn
  have hst : (store ⟨w1.heap.size, 0, none⟩ (.func (.func 93) #[] #[.pointer (some ⟨lb, 0, none⟩)])).run Tryz.prog (w1.alloc (.cells #[.nilFunc] 30)) = .ok () (w1.alloc (.cells #[.func (.func 93) #[] #[.pointer (some ⟨lb, 0, none⟩)]] 30)) := by
    rw [run_store _ _ _ _ _ rfl, q0]
    simp [q1, World.setCell_alloc_at]
  obtain ⟨fb, hfb⟩ : ∃ k, k = w1.heap.size := ⟨_, rfl⟩
  have HFB := Lib.hid hfb
  have hk1 : All w1 (w1.alloc (.cells #[.func (.func 93) #[] #[.pointer (some ⟨lb, 0, none⟩)]] 30)) := Kept.alloc _ _ _
  have hcf := heap_at w1 (.cells #[.func (.func 93) #[] #[.pointer (some ⟨lb, 0, none⟩)]] 30) fb hfb
  replace hcl := hk1.heap hcl trivial
  replace hs1 := hs1.keep RPost.ok (Kept.all hk1)
  have hz1 : w1.heap.size < (w1.alloc (.cells #[.func (.func 93) #[] #[.pointer (some ⟨lb, 0, none⟩)]] 30)).heap.size := by simp
  have hlf : lb < fb := by have := HLB.out; omega
  have hff : fb < (w1.alloc (.cells #[.func (.func 93) #[] #[.pointer (some ⟨lb, 0, none⟩)]] 30)).heap.size := by rw [hfb]; simp
  replace hk0 := hk0.trans hk1
  have HCL := Lib.hid hcl
  have HS := Lib.hid hs1
  clear hfb hk1 hn hcl hs1 q0 q1
  go_upto_region 3 with fail
  clear hst
  simp only [← HFB.out]
  generalize w1.alloc (.cells #[.func (.func 93) #[] #[.pointer (some ⟨lb, 0, none⟩)]] 30) = w2 at *
  have HCF := Lib.hid hcf
  have HK0 := Lib.hid hk0
  have hcc := cell_at (i := 0) HCL.out rfl
  clear hcf hk0
  go_wp2_with fail
  go_loopw [6, 15] (fun v i wr => ∃ (k : Nat) (es : List Int), k ≤ len ∧ i = .int .i64 k ∧ es = nosL (xs.take k) key ∧ es.length ≤ k ∧ Acc RInt 1 3 (fun _ => False) w2.heap.size wr v es ∧ All w2 wr) (fun _ i _ => len - (intOf i).toNat)
  case atStart => exact ⟨0, [], Nat.zero_le _, rfl, by simp [nosL], Nat.le_refl _, Acc.nil _ _ _ _ _ _, Kept.refl _ _⟩
  case round =>
    obtain ⟨j, es, hj, rfl, hes, hel, hacc, hwr⟩ := hrel
    obtain ⟨w3, rfl⟩ : ∃ wo : World, wo = wr := ⟨_, rfl⟩
    have HES := Lib.hid hes
    clear hes hcc
    obtain ⟨av, cv, rfl, hcv⟩ := hacc.form
    obtain ⟨m, hm⟩ : ∃ m, m = es.length := ⟨_, rfl⟩
    have HM := Lib.hid hm
    rw [← hm] at hacc hel hcv ⊢
    clear hm
    by_cases hlj : j < len
    · obtain ⟨pb, off, x, ha, -, c0, c1, c2, c3, c4, c5, -, hx, htk⟩ := (HS.out.keep RPost.ok (Kept.all hwr)).atPost hlj
      subst ha
      have HX := Lib.hid htk
      have hka : All w3 (w3.alloc (.cells #[.int .i64 x.no, .int .i64 x.tm, .string x.paper, .string x.person, .int .i64 x.ans, .string x.words] 58)) := Kept.alloc _ _ _
      have hblk := heap_at w3 (.cells #[.int .i64 x.no, .int .i64 x.tm, .string x.paper, .string x.person, .int .i64 x.ans, .string x.words] 58) _ rfl
      have hwa := hwr.trans hka
      have hac3 := hacc.keepAll RInt.ok hka
      have p0 := cell_at (i := 0) hblk rfl
      have p2 := cell_at (i := 2) hblk rfl
      have hsz3 : w2.heap.size ≤ (w3.alloc (.cells #[.int .i64 x.no, .int .i64 x.tm, .string x.paper, .string x.person, .int .i64 x.ans, .string x.words] 58)).heap.size := hwa.size
      clear hblk hx hacc htk hka hwr
      by_cases hpk : x.paper = key
      · have f0 : (x.paper.toList == key.toList) = true := by simp [hpk]
        have HPK := Lib.hid hpk
        clear hpk
        go_wp2_with (at_builtin; refine wp_append1 RInt.ok _ rfl _ _ 22 rfl w2.heap.size 3 (.int .i64 0) 1 8 Tryz.underlying22 (by kernel_rfl) rfl (by decide) (fun _ => False) _ es rfl (hac3.keepAll RInt.ok (Kept.alloc _ _ _)) ⟨_, 0, none⟩ 1 [.int .i64 x.no] rfl rfl (World.news_of_block (cs := #[.int .i64 x.no]) (heap_at (w3.alloc (.cells #[.int .i64 x.no, .int .i64 x.tm, .string x.paper, .string x.person, .int .i64 x.ans, .string x.words] 58)) _ _ (by simp))) (by simp [Value.oneCell']) x.no rfl (by have := HM.out; have := Hlen.out; omega) (by decide) (by simp at *; omega) ?_)
        intro p8 c8 w9 hac9 hgrow _
        have hk9 : All w2 w9 := by
          refine hwa.trans2 ((Kept.refl (fun k => k < w2.heap.size) (w3.alloc (.cells #[.int .i64 x.no, .int .i64 x.tm, .string x.paper, .string x.person, .int .i64 x.ans, .string x.words] 58))).then_alloc _ |>.grown hgrow (fun k hk => Or.inr (by have := (hac3.lt k hk).1; omega))) (fun i hi _ => hi)
        clear hgrow hac3
        go_wp2_with fail
        go_roundw
        case rel => exact ⟨j + 1, es ++ [x.no], by omega, by go_num, by rw [HX.out, nosL_snoc, if_pos HPK.out]; exact congrArg (· ++ _) HES.out, by rw [List.length_append, ← HM.out]; simp; omega, hac9, hk9⟩
        case measure => simp [intOf]; omega
      · have f0 := bytes_ne3 hpk
        have HPK := Lib.hid hpk
        clear hpk
        go_wp2_with fail
        go_roundw
        case rel => exact ⟨j + 1, es, by omega, by go_num, by rw [HX.out, nosL_snoc, if_neg HPK.out, List.append_nil]; exact HES.out, by rw [← HM.out]; omega, hac3, hwa⟩
        case measure => simp [intOf]; omega
    · have hd : decide ((j : Int) < (len : Int)) = false := by simp; omega
      have hes : es = nosL xs key := by rw [HES.out, List.take_of_length_le (by have := Hlen.out; omega)]
      obtain ⟨zs, hzs⟩ := nos_lift HSN.out key
      have hez : es = zs.map noVal := hes.trans hzs.symm
      have hzl : zs.length = m := by rw [HM.out, hez, List.length_map]
      have HZS := Lib.hid hzs
      have HZL := Lib.hid hzl
      have HNL := Lib.hid (show m ≤ xs.length by rw [HM.out, hes]; exact nosL_len _ _)
      rw [hez] at hacc
      have hown : ∀ g0, (Value.slice av m cv).ownBlock = some g0 → w2.heap.size ≤ g0 := fun g0 hg => (hacc.lt g0 hg).1
      have HCMP := Lib.hid (show ∀ g0, (Value.slice av m cv).ownBlock = some g0 → CmpAt Tryz.prog 95 #[.pointer (some ⟨fb, 0, none⟩)] noVal (fun x y : NoOf xs => cmpLI (wayZ xs (noVal x)) (wayZ xs (noVal y))) g0 w3 from fun g0 hg x y wx hk => by
        have hk2 : All w2 wx := hwr.trans2 hk (fun i hi _ e => by have := hown _ hg; omega)
        exact way2_any HSN.out hlen lb fb a len cap x.1 y.1 x.2 y.2 wx ((HS.out.keep RPost.ok (Kept.all hk2)).mono RPost.ok (fun _ _ => trivial)) (hk2.cell (cell_at (i := 0) HCL.out rfl) trivial) (hk2.cell (cell_at (i := 0) HCF.out rfl) trivial))
      have HSORT := Lib.hid (sortZ_any noVal (fun x y : NoOf xs => cmpLI (wayZ xs (noVal x)) (wayZ xs (noVal y))) (ways_cmp (fun x : NoOf xs => wayN xs x.1)) 95 #[.pointer (some ⟨fb, 0, none⟩)] HEG.out (.slice av m cv) zs w3 hacc (by have := HNL.out; omega) HCMP.out)
      have HWR := Lib.hid hwr
      have HOWN := Lib.hid hown
      clear hes hez hzl hzs hacc hown HCMP HEG hwr
      go_wp2_with fail
      refine HSORT.out.mono ?_
      rintro e w4 ⟨rfl, qs, hqp, hqs, hac4, hgrow⟩
      have hss := thread_of HSN.out (ss := qs.map noVal) (by rw [← HZS.out]; exact hqp.map _) (List.pairwise_map.2 hqs)
      have hk4 : All w2 w4 := by
        refine HWR.out.trans2 ((Kept.refl (fun k => k < w2.heap.size) w3).grown hgrow (fun k hk => Or.inr (by have := HOWN.out _ hk; omega))) (fun i hi _ => hi)
      have hql : (qs.map noVal).length = m := by rw [List.length_map, hqp.length_eq, HZL.out]
      have hqn : ∀ z ∈ qs.map noVal, ∃ n : Nat, z = (n : Int) ∧ 1 ≤ n ∧ n ≤ xs.length := fun z hz => by
        have hz2 : z ∈ nosL xs key := by rw [← HZS.out]; exact (hqp.map noVal).mem_iff.1 hz
        obtain ⟨k, x, hx, -, rfl⟩ := (nosL_mem HSN.out).1 hz2
        exact ⟨k + 1, by omega, by omega, by have := (List.getElem?_eq_some_iff.1 hx).1; omega⟩
      obtain ⟨ss, hsse⟩ : ∃ ss, ss = qs.map noVal := ⟨_, rfl⟩
      rw [← hsse] at hss hac4 hql hqn
      obtain ⟨av', cv', hv', hs4⟩ := hac4.sl RInt.ok (by decide) (G := fun _ => True) (fun _ h => h.elim) (fun _ _ => trivial)
      rw [hql] at hv' hs4
      injection hv' with q1 q2 q3
      subst q1 q3
      have HS4 := Lib.hid hs4
      have HQN := Lib.hid hqn
      have HSS := Lib.hid hss
      have HQL := Lib.hid hql
      have HK4 := Lib.hid hk4
      have hz4 := hk4.size
      have hmb : m ≤ 2000 := by have := HNL.out; omega
      clear hqp hqs hac4 hgrow hss hql hqn hsse q2 hs4 HSORT HOWN HWR hk4
      go_wp2_with fail
      go_loopw [9, 34] (fun v i wr => ∃ (k : Nat), k ≤ m ∧ i = .int .i64 k ∧ Acc RLine 2 91 (fun _ => False) w4.heap.size wr v ((ss.take k).map (lineF xs)) ∧ All w4 wr) (fun _ i _ => m - (intOf i).toNat)
      case atStart => exact ⟨0, Nat.zero_le _, rfl, by rw [List.take_zero, List.map_nil]; exact Acc.nil _ _ _ _ _ _, Kept.refl _ _⟩
      case round =>
        obtain ⟨k, hk, rfl, hacc, hwr⟩ := hrel
        obtain ⟨w5, rfl⟩ : ∃ wo : World, wo = wr := ⟨_, rfl⟩
        obtain ⟨au, cu, rfl, hcu⟩ := hacc.form
        by_cases hlt : k < m
        · have hlk : ((ss.take k).map (lineF xs)).length = k := by
            have := HQL.out
            rw [List.length_map, List.length_take]
            omega
          rw [hlk] at hacc hcu ⊢
          obtain ⟨gb, go, hga, -, hgc⟩ := (HS4.out.keep RInt.ok hwr).ints (by omega)
          have p0 := hgc k hlt
          have hsk : ss[k]? = some (ss.getD k 0) := by
            have : k < ss.length := by have := HQL.out; omega
            rw [List.getD_eq_getElem?_getD, List.getElem?_eq_getElem this]
            rfl
          obtain ⟨nn, hnn, hn1, hn2⟩ := HQN.out _ (List.mem_of_getElem? hsk)
          rw [hnn] at hsk p0
          have HSK := Lib.hid (line_snoc (xs := xs) hsk)
          subst hga
          have hk5 : All w2 w5 := HK4.out.trans hwr
          have HWAY := Lib.hid (way1_any HSN.out hlen lb a len cap nn hn2 w5 ((HS.out.keep RPost.ok (Kept.all hk5)).mono RPost.ok (fun _ _ => trivial)) (hk5.cell (cell_at (i := 0) HCL.out rfl) trivial))
          have hcf5 := hk5.cell (cell_at (i := 0) HCF.out rfl) trivial
          have hwl : (wayZ xs (nn : Int)).length ≤ nn := by have := wayZ_len xs (nn : Int); simpa using this
          have hwp : 1 ≤ (wayZ xs (nn : Int)).length := by
            have h1 := wayN_step HSN.out (show 0 < nn by omega)
            unfold wayZ
            rw [Int.toNat_natCast, h1]
            simp
          obtain ⟨wl, hwle⟩ : ∃ t, t = (wayZ xs (nn : Int)).length := ⟨_, rfl⟩
          have HWL := Lib.hid hwle
          rw [← hwle] at HWAY hwl hwp
          have f1 : IntKind.i64.wrap ((wl : Int) - 1) = (wl : Int) - 1 := IntWalk.i64_in _ (by omega)
          clear hgc hsk hnn hlk hwle
          go_wp2_with fail
          refine HWAY.out.mono ?_
          rintro e w6 ⟨⟨p6, c6, rfl, -⟩, hw6⟩
          have hac6 := hacc.keepAll RLine.ok hw6.1
          have hk6 := hwr.trans hw6.1
          have hz6 := hk6.size
          obtain ⟨os, hos⟩ : ∃ o, o = (ss.take k).map (lineF xs) := ⟨_, rfl⟩
          have HOS := Lib.hid hos
          have hol : os.length = k := by
            have := HQL.out
            rw [hos, List.length_map, List.length_take]
            omega
          rw [← hos] at hac6
          clear hacc hwr hk5 hcf5 HWAY p0 hos hw6
          have hwl2 : wl ≤ 2000 := by omega
          go_wp2_with (at_builtin; refine wp_append1 RLine.ok _ rfl _ _ 82 rfl w4.heap.size 91 (.agg #[.int .i64 0, .int .i64 0]) 2 16 Tryz.underlying82 (by kernel_rfl) rfl (by decide) (fun _ => False) _ os rfl (hac6.keepAll RLine.ok (Kept.alloc _ _ _)) ⟨_, 0, none⟩ 1 [.int .i64 nn, .int .i64 ((wl : Int) - 1)] rfl rfl (World.news_of_block (cs := #[.int .i64 nn, .int .i64 ((wl : Int) - 1)]) (heap_alloc_new w6 _)) (by simp [Value.oneCell']) ((nn : Int), (wl : Int) - 1) rfl (by omega) (by decide) (by simp; omega) ?_)
          intro p8 c8 w9 hac9 hgrow _
          have hk9 : All w4 w9 := by
            refine hk6.trans2 ((Kept.refl (fun k => k < w4.heap.size) w6).then_alloc _ |>.grown hgrow (fun k hk => Or.inr (by have := (hac6.lt k hk).1; omega))) (fun i hi _ => hi)
          clear hgrow hac6
          go_wp2_with fail
          go_roundw
          case rel => exact ⟨k + 1, by omega, by go_num, by rw [HSK.out, ← HOS.out, lineF, ← HWL.out]; exact hac9, hk9⟩
          case measure => simp [intOf]; omega
        · have hd2 : decide ((k : Int) < (m : Int)) = false := by simp; omega
          have he : (ss.take k).map (lineF xs) = threadL xs key := by
            rw [List.take_of_length_le (by have := HQL.out; omega)]
            exact HSS.out
          rw [he] at hacc ⊢
          have HAC := Lib.hid (hacc.base (show w.heap.size ≤ w4.heap.size by omega))
          have HALL := Lib.hid ((HK0.out.trans HK4.out).trans hwr)
          obtain ⟨tl, htl⟩ : ∃ t, t = (threadL xs key).length := ⟨_, rfl⟩
          have HTL := Lib.hid htl
          rw [← htl] at HAC ⊢
          clear hacc he htl
          go_wp2_with fail
          go_ret
          exact ⟨⟨_, rfl, HAC.out⟩, HALL.out⟩
end Go.Proofs.YtllkemadaemjeaaGreatDoor
