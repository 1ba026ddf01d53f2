/- final finds the final of a paper, where papers rise. -/
import Derived.Test.YtbpbhpmkganefaaGreatDoorVa
import Derived.Test.YtbpbhpmkganefaaGreatDoorSj
namespace Go.Proofs.YtbpbhpmkganefaaGreatDoor
open Go.RowKit

theorem final1_any (x : Fin4) (ac : Option Addr) (lc cc : Nat) (p : ByteArray) (w : World) :
    Calls Tryz.prog 58 #[.agg #[.string x.paper, .string x.title, .int .i64 x.pages, .slice ac lc cc], .string p] w fun e w' => e = .returned (.int .i64 (Lib.compareBytes x.paper.data.toList p.data.toList)) ∧ All w w' := by
  go_enter Tryz.func58, Tryz.ntmps58
  go_wp2_with fail
  refine (Tryz.strings_Compare _ _ _).mono ?_
  rintro e w' ⟨rfl, rfl⟩
  go_wp2_with fail
  go_ret
  exact ⟨rfl, Kept.alloc _ _ _⟩

/-- What is before place lo is before p; what is from hi on is not. -/
def Bnd (xs : List Fin4) (p : ByteArray) (lo hi : Nat) : Prop :=
  (∀ (t : Nat) (f : Fin4), xs[t]? = some f → t < lo → Op.bytesLess f.paper.toList p.toList = true) ∧ (∀ (t : Nat) (f : Fin4), xs[t]? = some f → hi ≤ t → Op.bytesLess f.paper.toList p.toList = false)
theorem Bnd.start (xs : List Fin4) (p : ByteArray) : Bnd xs p 0 xs.length :=
  ⟨fun _ _ _ h => absurd h (by omega), fun t f h1 h2 => by rw [List.getElem?_eq_none h2] at h1; cases h1⟩
theorem Rises.lt {xs : List Fin4} (h : Rises xs) {i j : Nat} {x y : Fin4} (hi : xs[i]? = some x) (hj : xs[j]? = some y) (hij : i < j) : Op.bytesLess x.paper.toList y.paper.toList = true := by
  obtain ⟨h1, rfl⟩ := List.getElem?_eq_some_iff.1 hi
  obtain ⟨h2, rfl⟩ := List.getElem?_eq_some_iff.1 hj
  exact List.pairwise_iff_getElem.1 h i j h1 h2 hij
theorem Bnd.up {xs : List Fin4} {p : ByteArray} {lo hi m : Nat} {y : Fin4} (h : Bnd xs p lo hi) (hr : Rises xs) (hy : xs[m]? = some y) (hc : Lib.compareBytes y.paper.data.toList p.data.toList < 0) : Bnd xs p (m + 1) hi := by
  rw [cmp_neg, ← tl_data, ← tl_data] at hc
  refine ⟨fun t f hf ht => ?_, h.2⟩
  by_cases e : t = m
  · subst e; rw [hf] at hy; cases hy; exact hc
  · exact bl_trans (hr.lt hf hy (by omega)) hc
theorem Bnd.down {xs : List Fin4} {p : ByteArray} {lo hi m : Nat} {y : Fin4} (h : Bnd xs p lo hi) (hr : Rises xs) (hy : xs[m]? = some y) (hc : ¬ Lib.compareBytes y.paper.data.toList p.data.toList < 0) : Bnd xs p lo m := by
  rw [cmp_neg, ← tl_data, ← tl_data] at hc
  refine ⟨h.1, fun t f hf ht => ?_⟩
  cases hb : Op.bytesLess f.paper.toList p.toList with
  | false => rfl
  | true =>
    exfalso
    by_cases e : t = m
    · subst e; rw [hf] at hy; cases hy; exact hc hb
    · exact hc (bl_trans (hr.lt hy hf (by omega)) hb)
theorem Bnd.cnt {xs : List Fin4} {p : ByteArray} {lo : Nat} (h : Bnd xs p lo lo) (hl : lo ≤ xs.length) : cntOf xs p = lo := cnt_boundary hl h.1 h.2
theorem found_at {xs : List Fin4} {p : ByteArray} {lo : Nat} {y : Fin4} (hr : Rises xs) (hc : cntOf xs p = lo) (hy : xs[lo]? = some y) : (finOf xs p).isSome = decide (Lib.compareBytes y.paper.data.toList p.data.toList = 0) := by
  by_cases e : y.paper = p
  · rw [finOf_has hy e]; simp [cmp_zero, e]
  · have hn : Lib.compareBytes y.paper.data.toList p.data.toList ≠ 0 := fun h => e (Go.WideShapes.bytes_inj ((cmp_zero _ _).1 h))
    rw [decide_eq_false hn]
    cases hf : finOf xs p with
    | none => rfl
    | some f =>
      obtain ⟨h1, h2⟩ := finOf_cnt hr hf
      rw [hc, hy] at h1
      cases h1
      exact absurd h2 e
theorem found_no {xs : List Fin4} {p : ByteArray} (hr : Rises xs) (hc : cntOf xs p = xs.length) : (finOf xs p).isSome = false := by
  cases hf : finOf xs p with
  | none => rfl
  | some f =>
    have h1 := (finOf_cnt hr hf).1
    rw [hc, List.getElem?_eq_none (Nat.le_refl _)] at h1
    cases h1

def FinalPost (xs : List Fin4) (p : ByteArray) (w : World) (e : Ending) (w' : World) : Prop := e = .returned (.tuple #[.int .i64 (cntOf xs p), .bool (finOf xs p).isSome]) ∧ All w w'

set_option maxRecDepth 100000 in
set_option maxHeartbeats 3200000 in
theorem binSearch_any (a : Option Addr) (len cap : Nat) (xs : List Fin4) (p : ByteArray) (w : World) (hs : Sl RFin 4 (fun _ => True) w a len xs) (hl : len ≤ 1000) (hr : Rises xs) :
    Calls Tryz.prog 57 #[.slice a len cap, .string p, .func (.func 58) #[] #[]] w (FinalPost xs p w) := by
  have Hlen := Lib.hid hs.len
  have HR := Lib.hid hr
  have HB := Lib.hid (Bnd.start xs p)
  have eg : ∀ args w, (callFunc 58 args).run Tryz.prog w = .ok (.enter 58 args) w := enters_of Tryz.func58 (by kernel_rfl) rfl
  clear hr
  go_enter Tryz.func57, Tryz.ntmps57
  go_wp2_with fail
  go_loopw [9, 10] (fun i j wr => ∃ lo hi : Nat, i = .int .i64 lo ∧ j = .int .i64 hi ∧ lo ≤ hi ∧ hi ≤ len ∧ Bnd xs p lo hi ∧ All w wr) (fun i j _ => (intOf j - intOf i).toNat)
  case atStart => exact ⟨0, len, rfl, rfl, Nat.zero_le _, Nat.le_refl _, by have := HB.out; rw [Hlen.out] at this; exact this, Kept.refl _ _⟩
  case round =>
    obtain ⟨lo, hi, rfl, rfl, hle, hhi, hb, hall⟩ := hrel
    by_cases hlt : lo < hi
    · obtain ⟨b, off, y, ac, cc, ha, -, c0, c1, c2, c3, -, -, -, hy, -, -⟩ := (hs.keep RFin.ok hall).atFin (k := (lo + hi) / 2) (by omega)
      subst ha
      have Hy := Lib.hid hy
      have Hb := Lib.hid hb
      clear hy hb hs
      by_cases hc : Lib.compareBytes y.paper.data.toList p.data.toList < 0
      · have hn := Lib.hid (Hb.out.up HR.out Hy.out hc)
        go_wp2_with fail
        refine (final1_any y _ _ _ p _).mono ?_
        rintro e w2 ⟨rfl, hw2⟩
        go_wp2_with fail
        go_roundw
        case rel => exact ⟨(lo + hi) / 2 + 1, hi, by go_num, rfl, by omega, hhi, hn.out, hall.trans hw2⟩
        case measure => simp [intOf]; omega
      · have hn := Lib.hid (Hb.out.down HR.out Hy.out hc)
        have hd : decide (Lib.compareBytes y.paper.data.toList p.data.toList < 0) = false := decide_eq_false hc
        clear hc
        go_wp2_with fail
        refine (final1_any y _ _ _ p _).mono ?_
        rintro e w2 ⟨rfl, hw2⟩
        go_wp2_with fail
        go_roundw
        case rel => exact ⟨lo, (lo + hi) / 2, rfl, by go_num, by omega, by omega, hn.out, hall.trans hw2⟩
        case measure => simp [intOf]; omega
    · have hd : decide ((lo : Int) < (hi : Int)) = false := by simp; omega
      have hb2 : Bnd xs p lo lo := by
        have he : hi = lo := by omega
        rw [he] at hb; exact hb
      have hcn := Lib.hid (hb2.cnt (by have := Hlen.out; omega))
      clear hb2
      clear hb
      by_cases hll : lo < len
      · obtain ⟨b, off, y, ac, cc, ha, -, c0, c1, c2, c3, -, -, -, hy, -, -⟩ := (hs.keep RFin.ok hall).atFin hll
        subst ha
        have hfo := Lib.hid (found_at HR.out hcn.out hy)
        clear hy hs
        by_cases hz : Lib.compareBytes y.paper.data.toList p.data.toList = 0
        · have dz : (Lib.compareBytes y.paper.data.toList p.data.toList == 0) = true := by simp [hz]
          have hfo2 := Lib.hid (hfo.out.trans (decide_eq_true hz))
          clear hz
          go_wp2_with fail
          refine (final1_any y _ _ _ p _).mono ?_
          rintro e w2 ⟨rfl, hw2⟩
          go_wp2_with fail
          go_ret2
          exact ⟨by rw [hcn.out, hfo2.out]; rfl, hall.trans hw2⟩
        · have dz : (Lib.compareBytes y.paper.data.toList p.data.toList == 0) = false := by simp [hz]
          have hfo2 := Lib.hid (hfo.out.trans (decide_eq_false hz))
          clear hz
          go_wp2_with fail
          refine (final1_any y _ _ _ p _).mono ?_
          rintro e w2 ⟨rfl, hw2⟩
          go_wp2_with fail
          go_ret2
          exact ⟨by rw [hcn.out, hfo2.out]; rfl, hall.trans hw2⟩
      · have hd2 : decide ((lo : Int) < (len : Int)) = false := by simp; omega
        have hfo2 := Lib.hid (found_no HR.out (show cntOf xs p = xs.length by have := hcn.out; have := Hlen.out; omega))
        clear hs
        go_wp2_with fail
        go_ret2
        exact ⟨by rw [hcn.out, hfo2.out]; rfl, hall⟩

theorem final_any (a : Option Addr) (len cap : Nat) (xs : List Fin4) (p : ByteArray) (w : World) (hs : Sl RFin 4 (fun _ => True) w a len xs) (hl : len ≤ 1000) (hr : Rises xs) :
    Calls Tryz.prog 25 #[.slice a len cap, .string p] w (FinalPost xs p w) := by
  have HB := Lib.hid (binSearch_any a len cap xs p w hs hl hr)
  clear hs hr
  go_enter Tryz.func25, Tryz.ntmps25
  go_wp2_with fail
  refine HB.out.mono ?_
  rintro e w2 ⟨rfl, hw2⟩
  go_wp2_with fail
  go_ret2
  exact ⟨rfl, hw2⟩
end Go.Proofs.YtbpbhpmkganefaaGreatDoor
